/- Rings and wide numbers: the document's functions. Rings: the document's functions. -/
import Derived.Test.YtnalgofemikggaaDoorW1
namespace Go.Proofs.YtnalgofemikggaaDoor
section
open Go.RowKit
attribute [local irreducible] FS FO IT HS

theorem wn_zero : SV.agg [.int .i64 0, .int .u64 0] = WN 0 := by unfold WN; rw [zero_hi, zero_lo]
theorem wn_one : SV.agg [.int .i64 0, .int .u64 1] = WN 1 := by unfold WN; rw [one_hi, one_lo]

def ir_fretworkref01_Of : IR :=
(.seq (.reg (⟨(some 2), .al [.int .i64 0, .int .u64 0], none⟩ :: [])) (.seq (.seq (.reg (⟨(some 3), .mv (.t 0), none⟩ ::⟨(some 4), .bin .lss (.t 3) (.c (.int .i64 0)), none⟩ :: [])) (.cond (.t 4) (.seq (.reg (⟨(some 5), .mv (.t 0), none⟩ ::⟨(some 6), .cv .u64 (.t 5), none⟩ ::⟨(some 7), .bld [.int .i64 0, .int .u64 0] [(0, 1, (.c (.int .i64 (-1)))), (1, 1, (.t 6))], none⟩ ::⟨none, .st 2 (.t 2) (.t 7), none⟩ :: [])) .ret) .skip)) (.seq (.reg (⟨(some 8), .mv (.t 0), none⟩ ::⟨(some 9), .cv .u64 (.t 8), none⟩ ::⟨(some 10), .bld [.int .i64 0, .int .u64 0] [(1, 1, (.t 9))], none⟩ ::⟨none, .st 2 (.t 2) (.t 10), none⟩ :: [])) .ret)))
theorem cd_fretworkref01_Of : Code1 Tryd.prog 32 11 ir_fretworkref01_Of [.c 2 true 2] := ⟨Tryd.call32, _, _, Tryd.func32, rfl, by kernel_rfl, by kernel_rfl, by kernel_rfl, by kernel_rfl⟩

theorem fs_r1Of (n : Int) (h : I64 n) : FS Tryd.prog 32 [.int .i64 n] (WN n) := by
  refine fs_of_cvc mixed cd_fretworkref01_Of (by simp) ?_
  repeat' (conv => whnf); first
    | ((refine ⟨_, Or.inr rfl, ?_⟩))
    | ((refine Br.beq (by rfl) ?_))
    | ((refine Br.bne (by rfl) ?_))
    | (refine Br.tt ?_)
    | (refine Br.ff ?_)
    | (refine Br.dec (fun h => ?_) (fun h => ?_)) <;> try (exfalso; omega)
    | (refine Br.neg ?_)
    | (refine Br.mk (fun h => ?_) (fun h => ?_))
    | (refine And.intro rfl ?_)
    | (refine And.intro (by omega) ?_)
    | (refine ⟨_, Or.inl ⟨⟨by omega, by omega⟩, rfl⟩, ?_⟩)
    | (refine And.intro (by simp only [lens_all]; first | done | omega) ?_)
    | (refine And.intro (Nat.le_refl _) ?_)
    | fail
  all_goals
    rename_i hn
    show SV.agg [SV.int .i64 _, SV.int .u64 _] = WN _
    refine wn_eq ?_ (of_lo n)
  · exact of_hi_neg n hn h
  · exact of_hi_pos n hn h

def ir_fretworkref01_Add : IR :=
(.seq (.reg (⟨(some 2), .bx (.t 0), none⟩ ::⟨(some 3), .bx (.t 1), none⟩ ::⟨(some 4), .al [.int .i64 0, .int .u64 0], none⟩ :: [])) (.seq (.reg (⟨(some 7), .fa 1 (.t 2), none⟩ ::⟨(some 8), .ld 1 false (.t 7), none⟩ ::⟨(some 9), .fa 1 (.t 3), none⟩ ::⟨(some 10), .ld 1 false (.t 9), none⟩ ::⟨(some 11), .bin .add (.t 8) (.t 10), none⟩ ::⟨(some 5), .mv (.t 11), none⟩ :: [])) (.seq (.reg (⟨(some 12), .fa 0 (.t 2), none⟩ ::⟨(some 13), .ld 1 false (.t 12), none⟩ ::⟨(some 14), .fa 0 (.t 3), none⟩ ::⟨(some 15), .ld 1 false (.t 14), none⟩ ::⟨(some 16), .bin .add (.t 13) (.t 15), none⟩ ::⟨(some 6), .mv (.t 16), none⟩ :: [])) (.seq (.seq (.reg (⟨(some 17), .mv (.t 5), none⟩ ::⟨(some 18), .fa 1 (.t 2), none⟩ ::⟨(some 19), .ld 1 false (.t 18), none⟩ ::⟨(some 20), .bin .lss (.t 17) (.t 19), none⟩ :: [])) (.cond (.t 20) (.reg (⟨(some 21), .mv (.t 6), none⟩ ::⟨(some 22), .bin .add (.t 21) (.c (.int .i64 1)), none⟩ ::⟨(some 6), .mv (.t 22), none⟩ :: [])) .skip)) (.seq (.reg (⟨(some 23), .mv (.t 6), none⟩ ::⟨(some 24), .mv (.t 5), none⟩ ::⟨(some 25), .bld [.int .i64 0, .int .u64 0] [(0, 1, (.t 23)), (1, 1, (.t 24))], none⟩ ::⟨none, .st 2 (.t 4) (.t 25), none⟩ :: [])) .ret)))))
theorem cd_fretworkref01_Add : Code1 Tryd.prog 39 26 ir_fretworkref01_Add [.c 2 true 4] := ⟨Tryd.call39, _, _, Tryd.func39, rfl, by kernel_rfl, by kernel_rfl, by kernel_rfl, by kernel_rfl⟩

theorem fs_r1Add (x y : Int) : FS Tryd.prog 39 [WN x, WN y] (WN (x + y)) := by
  refine fs_of_cvc mixed cd_fretworkref01_Add (by simp) ?_
  have e1 := add_lo x y
  repeat' (conv => whnf); first
    | ((refine ⟨lo (x + y), Or.inr e1.symm, ?_⟩))
    | ((refine ⟨_, Or.inr (w64 _).symm, ?_⟩))
    | ((refine Br.beq (by rfl) ?_))
    | ((refine Br.bne (by rfl) ?_))
    | (refine Br.tt ?_)
    | (refine Br.ff ?_)
    | (refine Br.dec (fun h => ?_) (fun h => ?_)) <;> try (exfalso; omega)
    | (refine Br.neg ?_)
    | (refine Br.mk (fun h => ?_) (fun h => ?_))
    | (refine And.intro rfl ?_)
    | (refine And.intro (by omega) ?_)
    | (refine ⟨_, Or.inl ⟨⟨by omega, by omega⟩, rfl⟩, ?_⟩)
    | (refine And.intro (by simp only [lens_all]; first | done | omega) ?_)
    | (refine And.intro (Nat.le_refl _) ?_)
    | fail
  · show SV.agg [.int .i64 (wrap64 (wrap64 (hi x + hi y) + 1)), .int .u64 (lo (x + y))] = WN _
    exact wn_eq (add_hi2 x y h) rfl
  · show SV.agg [.int .i64 (wrap64 (hi x + hi y)), .int .u64 (lo (x + y))] = WN _
    exact wn_eq (add_hi3 x y h) rfl

def ir_fretworkref01_Minus : IR :=
(.seq (.reg (⟨(some 1), .bx (.t 0), none⟩ ::⟨(some 2), .al [.int .i64 0, .int .u64 0], none⟩ :: [])) (.seq (.reg (⟨(some 3), .fa 0 (.t 1), none⟩ ::⟨(some 4), .ld 1 false (.t 3), none⟩ ::⟨(some 5), .un .xor (.t 4), none⟩ ::⟨(some 6), .fa 1 (.t 1), none⟩ ::⟨(some 7), .ld 1 false (.t 6), none⟩ ::⟨(some 8), .un .xor (.t 7), none⟩ ::⟨(some 9), .bld [.int .i64 0, .int .u64 0] [(0, 1, (.t 5)), (1, 1, (.t 8))], none⟩ ::⟨(some 10), .bld [.int .i64 0, .int .u64 0] [(1, 1, (.c (.int .u64 1)))], none⟩ ::⟨(some 11), .call (.c (.fn 39 [])) [(.t 9), (.t 10)], none⟩ ::⟨none, .st 2 (.t 2) (.t 11), none⟩ :: [])) .ret))
theorem cd_fretworkref01_Minus : Code1 Tryd.prog 40 12 ir_fretworkref01_Minus [.c 2 true 2] := ⟨Tryd.call40, _, _, Tryd.func40, rfl, by kernel_rfl, by kernel_rfl, by kernel_rfl, by kernel_rfl⟩

theorem fs_r1Minus (x : Int) : FS Tryd.prog 40 [WN x] (WN (-x)) := by
  refine fs_of_cvc mixed cd_fretworkref01_Minus (by simp) ?_
  have c : FS Tryd.prog 39 [.agg [.int .i64 (bXor .i64 (-1) (hi x)), .int .u64 (bXor .u64 IntKind.u64.max (lo x))], .agg [.int .i64 0, .int .u64 1]] (WN (-x)) := by
    have h := fs_r1Add (-1 - x) 1
    rw [show -1 - x + 1 = -x by omega, ← wn_one] at h
    have e1 : bXor .i64 (-1) (hi x) = hi (-1 - x) := min_lo x
    have e2 : bXor .u64 IntKind.u64.max (lo x) = lo (-1 - x) := min_hi x
    rw [e1, e2]
    exact h
  repeat' (conv => whnf); first
    | ((refine Or.inl ⟨by rfl, _, c, ?_⟩))
    | ((refine Br.beq (by rfl) ?_))
    | ((refine Br.bne (by rfl) ?_))
    | (refine Br.tt ?_)
    | (refine Br.ff ?_)
    | (refine Br.dec (fun h => ?_) (fun h => ?_)) <;> try (exfalso; omega)
    | (refine Br.neg ?_)
    | (refine Br.mk (fun h => ?_) (fun h => ?_))
    | (refine And.intro rfl ?_)
    | (refine And.intro (by omega) ?_)
    | (refine ⟨_, Or.inl ⟨⟨by omega, by omega⟩, rfl⟩, ?_⟩)
    | (refine And.intro (by simp only [lens_all]; first | done | omega) ?_)
    | (refine And.intro (Nat.le_refl _) ?_)
    | fail
  exact rfl

def ir_fretworkref01_Compare : IR :=
(.seq (.reg (⟨(some 2), .bx (.t 0), none⟩ ::⟨(some 3), .bx (.t 1), none⟩ ::⟨(some 4), .mv (.c (.int .i64 0)), none⟩ :: [])) (.seq (.seq (.reg (⟨(some 5), .fa 0 (.t 2), none⟩ ::⟨(some 6), .ld 1 false (.t 5), none⟩ ::⟨(some 7), .fa 0 (.t 3), none⟩ ::⟨(some 8), .ld 1 false (.t 7), none⟩ ::⟨(some 9), .bin .lss (.t 6) (.t 8), none⟩ ::⟨(some 10), .mv (.t 9), none⟩ ::⟨(some 11), .fa 0 (.t 2), some (10, false)⟩ ::⟨(some 12), .ld 1 false (.t 11), some (10, false)⟩ ::⟨(some 13), .fa 0 (.t 3), some (10, false)⟩ ::⟨(some 14), .ld 1 false (.t 13), some (10, false)⟩ ::⟨(some 15), .bin .eql (.t 12) (.t 14), some (10, false)⟩ ::⟨(some 16), .mv (.t 15), some (10, false)⟩ ::⟨(some 17), .fa 1 (.t 2), some (16, true)⟩ ::⟨(some 18), .ld 1 false (.t 17), some (16, true)⟩ ::⟨(some 19), .fa 1 (.t 3), some (16, true)⟩ ::⟨(some 20), .ld 1 false (.t 19), some (16, true)⟩ ::⟨(some 21), .bin .lss (.t 18) (.t 20), some (16, true)⟩ ::⟨(some 22), .pick (.t 16) (.t 21) (.c (.bool false)), some (10, false)⟩ ::⟨(some 23), .pick (.t 10) (.c (.bool true)) (.t 22), none⟩ :: [])) (.cond (.t 23) (.seq (.reg (⟨(some 4), .mv (.c (.int .i64 (-1))), none⟩ :: [])) .ret) .skip)) (.seq (.seq (.reg (⟨(some 24), .ld 2 true (.t 2), none⟩ ::⟨(some 25), .ld 2 true (.t 3), none⟩ ::⟨(some 26), .eqv false 25 (.t 24) (.t 25), none⟩ :: [])) (.cond (.t 26) (.seq (.reg (⟨(some 4), .mv (.c (.int .i64 0)), none⟩ :: [])) .ret) .skip)) (.seq (.reg (⟨(some 4), .mv (.c (.int .i64 1)), none⟩ :: [])) .ret))))
theorem cd_fretworkref01_Compare : Code1 Tryd.prog 42 27 ir_fretworkref01_Compare [.t 4] := ⟨Tryd.call42, _, _, Tryd.func42, rfl, by kernel_rfl, by kernel_rfl, by kernel_rfl, by kernel_rfl⟩

theorem fs_r1Compare (x y : Int) (hx : W128 x) (hy : W128 y) : FS Tryd.prog 42 [WN x, WN y] (.int .i64 (sgn3 x y)) := by
  refine fs_of_cvc mixed cd_fretworkref01_Compare (by simp) ?_
  have he := eqw false hx hy
  have hs := sgn_halves x y hx hy
  repeat' (conv => whnf); first
    | ((refine ⟨_, he, ?_⟩))
    | ((refine Br.beq (by rfl) ?_))
    | ((refine Br.bne (by rfl) ?_))
    | (refine Br.tt ?_)
    | (refine Br.ff ?_)
    | (refine Br.dec (fun h => ?_) (fun h => ?_)) <;> try (exfalso; omega)
    | (refine Br.neg ?_)
    | (refine Br.mk (fun h => ?_) (fun h => ?_))
    | (refine And.intro rfl ?_)
    | (refine And.intro (by omega) ?_)
    | (refine ⟨_, Or.inl ⟨⟨by omega, by omega⟩, rfl⟩, ?_⟩)
    | (refine And.intro (by simp only [lens_all]; first | done | omega) ?_)
    | (refine And.intro (Nat.le_refl _) ?_)
    | fail
  all_goals
    show SV.int .i64 _ = SV.int .i64 _
    congr 1
    rw [← hs]
  · simp [or2, sgn3, *]
  · simp [or2, sgn3, *]
  · subst h; simp [or2, sgn3]
  · rename_i h1 h2 h3
    have : lo y < lo x := by
      rcases Int.lt_trichotomy (lo x) (lo y) with h4 | h4 | h4
      · exact absurd h4 h3
      · exact absurd (eq_of_halves hx hy h2 h4) h
      · exact h4
    simp [or2, sgn3, *]
  · subst h; exact absurd rfl (by assumption)
  · rename_i h1 h2
    have : hi y < hi x := by omega
    simp [or2, sgn3, *]

def ir_fretworkref01_Narrow : IR :=
(.seq (.reg (⟨(some 1), .bx (.t 0), none⟩ ::⟨(some 2), .mv (.c (.int .i64 0)), none⟩ ::⟨(some 3), .mv (.c (.bool false)), none⟩ :: [])) (.seq (.reg (⟨(some 5), .fa 1 (.t 1), none⟩ ::⟨(some 6), .ld 1 false (.t 5), none⟩ ::⟨(some 7), .cv .i64 (.t 6), none⟩ ::⟨(some 4), .mv (.t 7), none⟩ :: [])) (.seq (.seq (.reg (⟨(some 8), .fa 0 (.t 1), none⟩ ::⟨(some 9), .ld 1 false (.t 8), none⟩ ::⟨(some 10), .bin .eql (.t 9) (.c (.int .i64 0)), none⟩ ::⟨(some 11), .mv (.t 10), none⟩ ::⟨(some 12), .mv (.t 4), some (11, true)⟩ ::⟨(some 13), .bin .geq (.t 12) (.c (.int .i64 0)), some (11, true)⟩ ::⟨(some 14), .pick (.t 11) (.t 13) (.c (.bool false)), none⟩ ::⟨(some 15), .mv (.t 14), none⟩ ::⟨(some 16), .fa 0 (.t 1), some (15, false)⟩ ::⟨(some 17), .ld 1 false (.t 16), some (15, false)⟩ ::⟨(some 18), .bin .eql (.t 17) (.c (.int .i64 (-1))), some (15, false)⟩ ::⟨(some 19), .mv (.t 18), some (15, false)⟩ ::⟨(some 20), .mv (.t 4), some (19, true)⟩ ::⟨(some 21), .bin .lss (.t 20) (.c (.int .i64 0)), some (19, true)⟩ ::⟨(some 22), .pick (.t 19) (.t 21) (.c (.bool false)), some (15, false)⟩ ::⟨(some 23), .pick (.t 15) (.c (.bool true)) (.t 22), none⟩ :: [])) (.cond (.t 23) (.seq (.reg (⟨(some 24), .mv (.t 4), none⟩ ::⟨(some 2), .mv (.t 24), none⟩ ::⟨(some 3), .mv (.c (.bool true)), none⟩ :: [])) .ret) .skip)) (.seq (.reg (⟨(some 2), .mv (.c (.int .i64 0)), none⟩ ::⟨(some 3), .mv (.c (.bool false)), none⟩ :: [])) .ret))))
theorem cd_fretworkref01_Narrow : Code1 Tryd.prog 15 25 ir_fretworkref01_Narrow [.t 2, .t 3] := ⟨Tryd.call15, _, _, Tryd.func15, rfl, by kernel_rfl, by kernel_rfl, by kernel_rfl, by kernel_rfl⟩

theorem fs_r1Narrow (x : Int) (hx : W128 x) : FS Tryd.prog 15 [WN x] (.tup [.int .i64 (nar x), .bool (fits x)]) := by
  refine fs_of_cvc mixed cd_fretworkref01_Narrow (by simp) ?_
  have hi0 := fits_iff x hx
  repeat' (conv => whnf); first
    | ((refine ⟨wrap64 (lo x), Or.inr (w64 _).symm, ?_⟩))
    | ((refine Br.beq (by rfl) ?_))
    | ((refine Br.bne (by rfl) ?_))
    | (refine Br.tt ?_)
    | (refine Br.ff ?_)
    | (refine Br.dec (fun h => ?_) (fun h => ?_)) <;> try (exfalso; omega)
    | (refine Br.neg ?_)
    | (refine Br.mk (fun h => ?_) (fun h => ?_))
    | (refine And.intro rfl ?_)
    | (refine And.intro (by omega) ?_)
    | (refine ⟨_, Or.inl ⟨⟨by omega, by omega⟩, rfl⟩, ?_⟩)
    | (refine And.intro (by simp only [lens_all]; first | done | omega) ?_)
    | (refine And.intro (Nat.le_refl _) ?_)
    | fail
  all_goals
    rw [low64] at *
    show SV.tup [.int .i64 _, .bool _] = _
  · have hf : fits x = true := hi0.2 (.inl ⟨by assumption, h⟩)
    rw [hf, (fits_yes x hx hf).1]
  · have hf : fits x = false := by rw [Bool.eq_false_iff]; intro hf; rcases hi0.1 hf with hh | hh <;> omega
    rw [hf, nar, hf]; rfl
  · have hf : fits x = true := hi0.2 (.inr ⟨by assumption, h⟩)
    rw [hf, (fits_yes x hx hf).1]
  · have hf : fits x = false := by rw [Bool.eq_false_iff]; intro hf; rcases hi0.1 hf with hh | hh <;> omega
    rw [hf, nar, hf]; rfl
  · have hf : fits x = false := by rw [Bool.eq_false_iff]; intro hf; rcases hi0.1 hf with hh | hh <;> omega
    rw [hf, nar, hf]; rfl

def ir_fretworkref01_Mul : IR :=
(.seq (.reg (⟨(some 4), .al [.int .i64 0, .int .u64 0], none⟩ :: [])) (.seq (.reg (⟨(some 9), .mv (.t 0), none⟩ ::⟨(some 10), .call (.c (.fn 32 [])) [(.t 9)], none⟩ ::⟨(some 5), .al [.int .i64 0, .int .u64 0], none⟩ ::⟨none, .st 2 (.t 5) (.t 10), none⟩ :: [])) (.seq (.reg (⟨(some 11), .mv (.t 1), none⟩ ::⟨(some 12), .bin .lss (.t 11) (.c (.int .i64 0)), none⟩ ::⟨(some 6), .mv (.t 12), none⟩ :: [])) (.seq (.reg (⟨(some 13), .mv (.t 1), none⟩ ::⟨(some 14), .cv .u64 (.t 13), none⟩ ::⟨(some 7), .mv (.t 14), none⟩ :: [])) (.seq (.seq (.reg (⟨(some 15), .mv (.t 6), none⟩ :: [])) (.cond (.t 15) (.reg (⟨(some 16), .mv (.t 7), none⟩ ::⟨(some 17), .un .neg (.t 16), none⟩ ::⟨(some 7), .mv (.t 17), none⟩ :: [])) .skip)) (.seq (.reg (⟨(some 8), .al [.int .i64 0, .int .u64 0], none⟩ :: [])) (.seq (.block 0 (.loop (.seq (.seq (.reg (⟨(some 18), .mv (.t 7), none⟩ ::⟨(some 19), .bin .gtr (.t 18) (.c (.int .u64 0)), none⟩ :: [])) (.cond (.t 19) .skip (.exit 0))) (.block 1 (.seq (.seq (.reg (⟨(some 20), .mv (.t 7), none⟩ ::⟨(some 21), .bin .rem (.t 20) (.c (.int .u64 2)), none⟩ ::⟨(some 22), .bin .eql (.t 21) (.c (.int .u64 1)), none⟩ :: [])) (.cond (.t 22) (.reg (⟨(some 23), .ld 2 true (.t 8), none⟩ ::⟨(some 24), .ld 2 true (.t 5), none⟩ ::⟨(some 25), .call (.c (.fn 39 [])) [(.t 23), (.t 24)], none⟩ ::⟨none, .st 2 (.t 8) (.t 25), none⟩ :: [])) .skip)) (.seq (.reg (⟨(some 26), .ld 2 true (.t 5), none⟩ ::⟨(some 27), .ld 2 true (.t 5), none⟩ ::⟨(some 28), .call (.c (.fn 39 [])) [(.t 26), (.t 27)], none⟩ ::⟨none, .st 2 (.t 5) (.t 28), none⟩ :: [])) (.reg (⟨(some 29), .mv (.t 7), none⟩ ::⟨(some 30), .bin .quo (.t 29) (.c (.int .u64 2)), none⟩ ::⟨(some 7), .mv (.t 30), none⟩ :: [])))))))) (.seq (.seq (.reg (⟨(some 31), .mv (.t 6), none⟩ :: [])) (.cond (.t 31) (.seq (.reg (⟨(some 32), .ld 2 true (.t 8), none⟩ ::⟨(some 33), .call (.c (.fn 40 [])) [(.t 32)], none⟩ ::⟨none, .st 2 (.t 4) (.t 33), none⟩ :: [])) .ret) .skip)) (.seq (.reg (⟨(some 34), .ld 2 true (.t 8), none⟩ ::⟨none, .st 2 (.t 4) (.t 34), none⟩ :: [])) .ret)))))))))
theorem cd_fretworkref01_Mul : Code1 Tryd.prog 12 35 ir_fretworkref01_Mul [.c 2 true 4] := ⟨Tryd.call12, _, _, Tryd.func12, rfl, by kernel_rfl, by kernel_rfl, by kernel_rfl, by kernel_rfl⟩

set_option maxHeartbeats 1000000 in
theorem fs_r1Mul (a b : Int) (ha : I64 a) (hb : I64 b) : FS Tryd.prog 12 [.int .i64 a, .int .i64 b] (WN (a * b)) := by
  refine fs_of_cvc mixed cd_fretworkref01_Mul (by simp) ?_
  have mb := mag_bd b hb
  obtain ⟨m, hm⟩ : ∃ m : Nat, mag b = m := Int.eq_ofNat_of_zero_le mb.1
  repeat' (conv => whnf); first
    | ((refine Or.inl ⟨by rfl, _, fs_r1Of a ha, ?_⟩))
    | ((refine ⟨IntKind.u64.wrap b, Or.inr rfl, ?_⟩))
    | ((refine ⟨IntKind.u64.wrap (0 - IntKind.u64.wrap b), Or.inr rfl, ?_⟩))
    | ((refine Br.beq (by rfl) ?_))
    | ((refine Br.bne (by rfl) ?_))
    | (refine Br.tt ?_)
    | (refine Br.ff ?_)
    | (refine Br.dec (fun h => ?_) (fun h => ?_)) <;> try (exfalso; omega)
    | (refine Br.neg ?_)
    | (refine Br.mk (fun h => ?_) (fun h => ?_))
    | (refine And.intro rfl ?_)
    | (refine And.intro (by omega) ?_)
    | (refine ⟨_, Or.inl ⟨⟨by omega, by omega⟩, rfl⟩, ?_⟩)
    | (refine And.intro (by simp only [lens_all]; first | done | omega) ?_)
    | (refine And.intro (Nat.le_refl _) ?_)
    | fail
  · have e0 : IntKind.u64.wrap (0 - IntKind.u64.wrap b) = (m : Int) := by
      rw [← hm]; unfold mag I64 at *; simp only [wrap_u64]; split <;> omega
    refine ⟨Int × Nat × Int, fun ⟨x, n, t⟩ => t + x * n = a * m ∧ n ≤ 9223372036854775808, fun ⟨x, n, t⟩ => [(4, .ptr 0 0 0 0), (5, .ptr 1 0 0 0), (8, .ptr 2 0 0 0), (6, .bool true), (7, .int .u64 (n : Int))], fun ⟨x, n, t⟩ => [.vars [.int .i64 0, .int .u64 0], .vars [.int .i64 (hi x), .int .u64 (lo x)], .vars [.int .i64 (hi t), .int .u64 (lo t)]], fun _ => none, fun ⟨x, n, t⟩ => n, ⟨(a, m, 0), ⟨by simp, by omega⟩, ⟨rfl, rfl, rfl, ?_, ?_, trivial⟩, ⟨⟨rfl, rfl, trivial⟩, ⟨rfl, rfl, trivial⟩, ⟨?_, ?_, trivial⟩, trivial⟩, rfl⟩, fun p hp => ?_⟩
    · show SV.bool (decide (b < 0)) = SV.bool true
      rw [decide_eq_true h]
    · exact congrArg (SV.int .u64) e0
    · show SV.int .i64 0 = SV.int .i64 (hi 0); rw [zero_hi]
    · show SV.int .u64 0 = SV.int .u64 (lo 0); rw [zero_lo]
    obtain ⟨x, n, t⟩ := p
    obtain ⟨h1, h2⟩ := hp
    have q1 : (n : Int).tmod 2 = n % 2 := Int.tmod_eq_emod_of_nonneg (by omega)
    have q2 : (n : Int) / 2 = ((n / 2 : Nat) : Int) := by omega
    repeat' (conv => whnf); first
      | ((refine ar_tdivu (by omega) (by omega) (by omega) ?_))
      | ((refine Or.inl ⟨by rfl, _, fs_r1Add t x, ?_⟩))
      | ((refine Or.inl ⟨by rfl, _, fs_r1Add x x, ?_⟩))
      | ((refine Or.inl ⟨by rfl, _, fs_r1Minus t, ?_⟩))
      | ((refine Br.beq (by rfl) ?_))
      | ((refine Br.bne (by rfl) ?_))
      | (refine Br.tt ?_)
      | (refine Br.ff ?_)
      | (refine Br.dec (fun h => ?_) (fun h => ?_)) <;> try (exfalso; omega)
      | (refine Br.neg ?_)
      | (refine Br.mk (fun h => ?_) (fun h => ?_))
      | (refine And.intro rfl ?_)
      | (refine And.intro (by omega) ?_)
      | (refine ⟨_, Or.inl ⟨⟨by omega, by omega⟩, rfl⟩, ?_⟩)
      | (refine And.intro (by simp only [lens_all]; first | done | omega) ?_)
      | (refine And.intro (Nat.le_refl _) ?_)
      | fail
    · refine ⟨(x + x, n / 2, t + x), ⟨?_, (show n / 2 ≤ 9223372036854775808 by omega)⟩, (show n / 2 < n by omega), ⟨rfl, rfl, rfl, rfl, congrArg (SV.int .u64) q2, trivial⟩, ⟨⟨rfl, rfl, trivial⟩, ⟨rfl, rfl, trivial⟩, ⟨rfl, rfl, trivial⟩, trivial⟩, rfl⟩
      show t + x + (x + x) * ((n / 2 : Nat) : Int) = a * m
      have e : (n : Int) = 2 * ((n / 2 : Nat) : Int) + 1 := by omega
      rw [← h1, show x * (n : Int) = x * (2 * ((n / 2 : Nat) : Int) + 1) by rw [← e], Int.mul_add, Int.add_mul, ← Int.mul_assoc, Int.mul_comm x 2, Int.mul_assoc]
      omega
    · refine ⟨(x + x, n / 2, t), ⟨?_, (show n / 2 ≤ 9223372036854775808 by omega)⟩, (show n / 2 < n by omega), ⟨rfl, rfl, rfl, rfl, congrArg (SV.int .u64) q2, trivial⟩, ⟨⟨rfl, rfl, trivial⟩, ⟨rfl, rfl, trivial⟩, ⟨rfl, rfl, trivial⟩, trivial⟩, rfl⟩
      show t + (x + x) * ((n / 2 : Nat) : Int) = a * m
      have e : (n : Int) = 2 * ((n / 2 : Nat) : Int) := by omega
      rw [← h1, show x * (n : Int) = x * (2 * ((n / 2 : Nat) : Int)) by rw [← e], Int.add_mul, ← Int.mul_assoc, Int.mul_comm x 2, Int.mul_assoc]
      omega
    · have e : n = 0 := by omega
      subst e
      have e2 : t = a * m := by simpa using h1
      show WN (-t) = WN (a * b)
      rw [e2, ← hm]; congr 1; unfold mag; rw [if_pos (by assumption), Int.mul_neg, Int.neg_neg]
  · have e0 : IntKind.u64.wrap b = (m : Int) := by
      rw [← hm]; unfold mag I64 at *; simp only [wrap_u64]; split <;> omega
    refine ⟨Int × Nat × Int, fun ⟨x, n, t⟩ => t + x * n = a * m ∧ n ≤ 9223372036854775808, fun ⟨x, n, t⟩ => [(4, .ptr 0 0 0 0), (5, .ptr 1 0 0 0), (8, .ptr 2 0 0 0), (6, .bool false), (7, .int .u64 (n : Int))], fun ⟨x, n, t⟩ => [.vars [.int .i64 0, .int .u64 0], .vars [.int .i64 (hi x), .int .u64 (lo x)], .vars [.int .i64 (hi t), .int .u64 (lo t)]], fun _ => none, fun ⟨x, n, t⟩ => n, ⟨(a, m, 0), ⟨by simp, by omega⟩, ⟨rfl, rfl, rfl, ?_, ?_, trivial⟩, ⟨⟨rfl, rfl, trivial⟩, ⟨rfl, rfl, trivial⟩, ⟨?_, ?_, trivial⟩, trivial⟩, rfl⟩, fun p hp => ?_⟩
    · show SV.bool (decide (b < 0)) = SV.bool false
      rw [decide_eq_false h]
    · exact congrArg (SV.int .u64) e0
    · show SV.int .i64 0 = SV.int .i64 (hi 0); rw [zero_hi]
    · show SV.int .u64 0 = SV.int .u64 (lo 0); rw [zero_lo]
    obtain ⟨x, n, t⟩ := p
    obtain ⟨h1, h2⟩ := hp
    have q1 : (n : Int).tmod 2 = n % 2 := Int.tmod_eq_emod_of_nonneg (by omega)
    have q2 : (n : Int) / 2 = ((n / 2 : Nat) : Int) := by omega
    repeat' (conv => whnf); first
      | ((refine ar_tdivu (by omega) (by omega) (by omega) ?_))
      | ((refine Or.inl ⟨by rfl, _, fs_r1Add t x, ?_⟩))
      | ((refine Or.inl ⟨by rfl, _, fs_r1Add x x, ?_⟩))
      | ((refine Or.inl ⟨by rfl, _, fs_r1Minus t, ?_⟩))
      | ((refine Br.beq (by rfl) ?_))
      | ((refine Br.bne (by rfl) ?_))
      | (refine Br.tt ?_)
      | (refine Br.ff ?_)
      | (refine Br.dec (fun h => ?_) (fun h => ?_)) <;> try (exfalso; omega)
      | (refine Br.neg ?_)
      | (refine Br.mk (fun h => ?_) (fun h => ?_))
      | (refine And.intro rfl ?_)
      | (refine And.intro (by omega) ?_)
      | (refine ⟨_, Or.inl ⟨⟨by omega, by omega⟩, rfl⟩, ?_⟩)
      | (refine And.intro (by simp only [lens_all]; first | done | omega) ?_)
      | (refine And.intro (Nat.le_refl _) ?_)
      | fail
    · refine ⟨(x + x, n / 2, t + x), ⟨?_, (show n / 2 ≤ 9223372036854775808 by omega)⟩, (show n / 2 < n by omega), ⟨rfl, rfl, rfl, rfl, congrArg (SV.int .u64) q2, trivial⟩, ⟨⟨rfl, rfl, trivial⟩, ⟨rfl, rfl, trivial⟩, ⟨rfl, rfl, trivial⟩, trivial⟩, rfl⟩
      show t + x + (x + x) * ((n / 2 : Nat) : Int) = a * m
      have e : (n : Int) = 2 * ((n / 2 : Nat) : Int) + 1 := by omega
      rw [← h1, show x * (n : Int) = x * (2 * ((n / 2 : Nat) : Int) + 1) by rw [← e], Int.mul_add, Int.add_mul, ← Int.mul_assoc, Int.mul_comm x 2, Int.mul_assoc]
      omega
    · refine ⟨(x + x, n / 2, t), ⟨?_, (show n / 2 ≤ 9223372036854775808 by omega)⟩, (show n / 2 < n by omega), ⟨rfl, rfl, rfl, rfl, congrArg (SV.int .u64) q2, trivial⟩, ⟨⟨rfl, rfl, trivial⟩, ⟨rfl, rfl, trivial⟩, ⟨rfl, rfl, trivial⟩, trivial⟩, rfl⟩
      show t + (x + x) * ((n / 2 : Nat) : Int) = a * m
      have e : (n : Int) = 2 * ((n / 2 : Nat) : Int) := by omega
      rw [← h1, show x * (n : Int) = x * (2 * ((n / 2 : Nat) : Int)) by rw [← e], Int.add_mul, ← Int.mul_assoc, Int.mul_comm x 2, Int.mul_assoc]
      omega
    · have e : n = 0 := by omega
      subst e
      have e2 : t = a * m := by simpa using h1
      show WN t = WN (a * b)
      rw [e2, ← hm]; congr 1; unfold mag; rw [if_neg (by assumption)]
end
section
open Go.RowKit
attribute [local irreducible] FS FO IT HS

def ir_fretworkref02_Is : IR :=
(.seq (.reg (⟨(some 2), .mv (.c (.bool false)), none⟩ :: [])) (.seq (.reg (⟨(some 3), .mv (.t 0), none⟩ ::⟨(some 4), .bin .geq (.t 3) (.c (.int .i64 1)), none⟩ ::⟨(some 5), .mv (.t 4), none⟩ ::⟨(some 6), .mv (.t 0), some (5, true)⟩ ::⟨(some 7), .bin .leq (.t 6) (.c (.int .i64 5)), some (5, true)⟩ ::⟨(some 8), .pick (.t 5) (.t 7) (.c (.bool false)), none⟩ ::⟨(some 2), .mv (.t 8), none⟩ :: [])) .ret))
theorem cd_fretworkref02_Is : Code1 Tryd.prog 21 9 ir_fretworkref02_Is [.t 2] := ⟨Tryd.call21, _, _, Tryd.func21, rfl, by kernel_rfl, by kernel_rfl, by kernel_rfl, by kernel_rfl⟩

theorem fs_r2Is (r : Int) : FS Tryd.prog 21 [.int .i64 r] (.bool (isR r)) := by
  refine fs_of_cvc mixed cd_fretworkref02_Is (by simp) ?_
  repeat' (conv => whnf); first
    | ((refine Br.beq (by rfl) ?_))
    | ((refine Br.bne (by rfl) ?_))
    | (refine Br.tt ?_)
    | (refine Br.ff ?_)
    | (refine Br.dec (fun h => ?_) (fun h => ?_)) <;> try (exfalso; omega)
    | (refine Br.neg ?_)
    | (refine Br.mk (fun h => ?_) (fun h => ?_))
    | (refine And.intro rfl ?_)
    | (refine And.intro (by omega) ?_)
    | (refine ⟨_, Or.inl ⟨⟨by omega, by omega⟩, rfl⟩, ?_⟩)
    | (refine And.intro (by simp only [lens_all]; first | done | omega) ?_)
    | (refine And.intro (Nat.le_refl _) ?_)
    | fail
  all_goals (show SV.bool _ = SV.bool _; congr 1; unfold isR; rw [Bool.eq_iff_iff]; simp; omega)

def ir_fretworkref02_truth : IR :=
(.seq (.reg (⟨(some 2), .al [.int .i64 0, .int .u64 0], none⟩ :: [])) (.seq (.seq (.reg (⟨(some 3), .mv (.t 0), none⟩ :: [])) (.cond (.t 3) (.seq (.reg (⟨(some 4), .bld [.int .i64 0, .int .u64 0] [(1, 1, (.c (.int .u64 1)))], none⟩ ::⟨none, .st 2 (.t 2) (.t 4), none⟩ :: [])) .ret) .skip)) (.seq (.reg (⟨(some 5), .bld [.int .i64 0, .int .u64 0] [], none⟩ ::⟨none, .st 2 (.t 2) (.t 5), none⟩ :: [])) .ret)))
theorem cd_fretworkref02_truth : Code1 Tryd.prog 43 6 ir_fretworkref02_truth [.c 2 true 2] := ⟨Tryd.call43, _, _, Tryd.func43, rfl, by kernel_rfl, by kernel_rfl, by kernel_rfl, by kernel_rfl⟩

theorem fs_r2truth (b : Bool) : FS Tryd.prog 43 [.bool b] (WN (tru b)) := by
  refine fs_of_cvc mixed cd_fretworkref02_truth (by simp) ?_
  repeat' (conv => whnf); first
    | ((refine Br.beq (by rfl) ?_))
    | ((refine Br.bne (by rfl) ?_))
    | (refine Br.tt ?_)
    | (refine Br.ff ?_)
    | (refine Br.dec (fun h => ?_) (fun h => ?_)) <;> try (exfalso; omega)
    | (refine Br.neg ?_)
    | (refine Br.mk (fun h => ?_) (fun h => ?_))
    | (refine And.intro rfl ?_)
    | (refine And.intro (by omega) ?_)
    | (refine ⟨_, Or.inl ⟨⟨by omega, by omega⟩, rfl⟩, ?_⟩)
    | (refine And.intro (by simp only [lens_all]; first | done | omega) ?_)
    | (refine And.intro (Nat.le_refl _) ?_)
    | fail
  · subst h
    exact wn_one
  · subst h
    exact wn_zero

def ir_fretworkref02_least : IR :=
(.seq (.reg (⟨(some 2), .mv (.c (.bool false)), none⟩ :: [])) (.seq (.reg (⟨(some 3), .mv (.t 0), none⟩ ::⟨(some 4), .bin .eql (.t 3) (.c (.int .i64 1)), none⟩ ::⟨(some 5), .mv (.t 4), none⟩ ::⟨(some 6), .mv (.t 0), some (5, false)⟩ ::⟨(some 7), .bin .eql (.t 6) (.c (.int .i64 3)), some (5, false)⟩ ::⟨(some 8), .pick (.t 5) (.c (.bool true)) (.t 7), none⟩ ::⟨(some 9), .mv (.t 8), none⟩ ::⟨(some 10), .mv (.t 0), some (9, false)⟩ ::⟨(some 11), .bin .eql (.t 10) (.c (.int .i64 4)), some (9, false)⟩ ::⟨(some 12), .pick (.t 9) (.c (.bool true)) (.t 11), none⟩ ::⟨(some 2), .mv (.t 12), none⟩ :: [])) .ret))
theorem cd_fretworkref02_least : Code1 Tryd.prog 44 13 ir_fretworkref02_least [.t 2] := ⟨Tryd.call44, _, _, Tryd.func44, rfl, by kernel_rfl, by kernel_rfl, by kernel_rfl, by kernel_rfl⟩

theorem fs_r2least (r : Int) : FS Tryd.prog 44 [.int .i64 r] (.bool (lt3 r)) := by
  refine fs_of_cvc mixed cd_fretworkref02_least (by simp) ?_
  repeat' (conv => whnf); first
    | ((refine Br.beq (by rfl) ?_))
    | ((refine Br.bne (by rfl) ?_))
    | (refine Br.tt ?_)
    | (refine Br.ff ?_)
    | (refine Br.dec (fun h => ?_) (fun h => ?_)) <;> try (exfalso; omega)
    | (refine Br.neg ?_)
    | (refine Br.mk (fun h => ?_) (fun h => ?_))
    | (refine And.intro rfl ?_)
    | (refine And.intro (by omega) ?_)
    | (refine ⟨_, Or.inl ⟨⟨by omega, by omega⟩, rfl⟩, ?_⟩)
    | (refine And.intro (by simp only [lens_all]; first | done | omega) ?_)
    | (refine And.intro (Nat.le_refl _) ?_)
    | fail
  all_goals (show SV.bool _ = SV.bool _; congr 1; unfold lt3; simp [*])

def ir_fretworkref02_Zero : IR :=
(.seq (.reg (⟨(some 2), .mv (.c (.int .i64 0)), none⟩ :: [])) (.seq (.seq (.reg (⟨(some 3), .mv (.t 0), none⟩ ::⟨(some 4), .call (.c (.fn 44 [])) [(.t 3)], none⟩ :: [])) (.cond (.t 4) (.seq (.reg (⟨(some 2), .mv (.c (.int .i64 4611686018427387904)), none⟩ :: [])) .ret) .skip)) (.seq (.reg (⟨(some 2), .mv (.c (.int .i64 0)), none⟩ :: [])) .ret)))
theorem cd_fretworkref02_Zero : Code1 Tryd.prog 27 5 ir_fretworkref02_Zero [.t 2] := ⟨Tryd.call27, _, _, Tryd.func27, rfl, by kernel_rfl, by kernel_rfl, by kernel_rfl, by kernel_rfl⟩

theorem fs_r2Zero (r : Int) : FS Tryd.prog 27 [.int .i64 r] (.int .i64 (rZero r)) := by
  refine fs_of_cvc mixed cd_fretworkref02_Zero (by simp) ?_
  obtain ⟨b, hb⟩ : ∃ b, lt3 r = b := ⟨_, rfl⟩
  have c := fs_r2least r
  rw [hb] at c
  repeat' (conv => whnf); first
    | ((refine Or.inl ⟨by rfl, _, c, ?_⟩))
    | ((refine Br.beq (by rfl) ?_))
    | ((refine Br.bne (by rfl) ?_))
    | (refine Br.tt ?_)
    | (refine Br.ff ?_)
    | (refine Br.dec (fun h => ?_) (fun h => ?_)) <;> try (exfalso; omega)
    | (refine Br.neg ?_)
    | (refine Br.mk (fun h => ?_) (fun h => ?_))
    | (refine And.intro rfl ?_)
    | (refine And.intro (by omega) ?_)
    | (refine ⟨_, Or.inl ⟨⟨by omega, by omega⟩, rfl⟩, ?_⟩)
    | (refine And.intro (by simp only [lens_all]; first | done | omega) ?_)
    | (refine And.intro (Nat.le_refl _) ?_)
    | fail
  all_goals (subst h; show SV.int .i64 _ = SV.int .i64 _; congr 1; unfold rZero; rw [hb]; rfl)

def ir_fretworkref02_Add : IR :=
(.seq (.reg (⟨(some 4), .bx (.t 1), none⟩ ::⟨(some 5), .bx (.t 2), none⟩ ::⟨(some 6), .al [.int .i64 0, .int .u64 0], none⟩ :: [])) (.seq (.reg (⟨(some 7), .mv (.t 0), none⟩ :: [])) (.block 0 (.seq (.seq (.reg (⟨(some 10), .bin .eql (.t 7) (.c (.int .i64 1)), none⟩ ::⟨(some 9), .mv (.t 10), none⟩ :: [])) (.cond (.t 9) .skip (.seq (.reg (⟨(some 11), .bin .eql (.t 7) (.c (.int .i64 3)), none⟩ ::⟨(some 9), .mv (.t 11), none⟩ :: [])) (.cond (.t 9) .skip (.reg (⟨(some 12), .bin .eql (.t 7) (.c (.int .i64 4)), none⟩ ::⟨(some 9), .mv (.t 12), none⟩ :: [])))))) (.cond (.t 9) (.seq (.seq (.reg (⟨(some 13), .ld 2 true (.t 5), none⟩ ::⟨(some 14), .ld 2 true (.t 4), none⟩ ::⟨(some 15), .call (.c (.fn 42 [])) [(.t 13), (.t 14)], none⟩ ::⟨(some 16), .bin .lss (.t 15) (.c (.int .i64 0)), none⟩ :: [])) (.cond (.t 16) (.seq (.reg (⟨(some 17), .ld 2 true (.t 5), none⟩ ::⟨none, .st 2 (.t 6) (.t 17), none⟩ :: [])) .ret) .skip)) (.seq (.reg (⟨(some 18), .ld 2 true (.t 4), none⟩ ::⟨none, .st 2 (.t 6) (.t 18), none⟩ :: [])) .ret)) (.seq (.reg (⟨(some 20), .bin .eql (.t 7) (.c (.int .i64 2)), none⟩ ::⟨(some 19), .mv (.t 20), none⟩ :: [])) (.cond (.t 19) (.seq (.reg (⟨(some 21), .ld 2 true (.t 4), none⟩ ::⟨(some 22), .bld [.int .i64 0, .int .u64 0] [], none⟩ ::⟨(some 23), .eqv true 25 (.t 21) (.t 22), none⟩ ::⟨(some 24), .mv (.t 23), none⟩ ::⟨(some 25), .ld 2 true (.t 5), some (24, false)⟩ ::⟨(some 26), .bld [.int .i64 0, .int .u64 0] [], some (24, false)⟩ ::⟨(some 27), .eqv true 25 (.t 25) (.t 26), some (24, false)⟩ ::⟨(some 28), .pick (.t 24) (.c (.bool true)) (.t 27), none⟩ ::⟨(some 29), .call (.c (.fn 43 [])) [(.t 28)], none⟩ ::⟨none, .st 2 (.t 6) (.t 29), none⟩ :: [])) .ret) (.seq (.reg (⟨(some 31), .bin .eql (.t 7) (.c (.int .i64 5)), none⟩ ::⟨(some 30), .mv (.t 31), none⟩ :: [])) (.cond (.t 30) (.seq (.reg (⟨(some 32), .ld 2 true (.t 4), none⟩ ::⟨(some 33), .ld 2 true (.t 5), none⟩ ::⟨(some 34), .call (.c (.fn 39 [])) [(.t 32), (.t 33)], none⟩ ::⟨none, .st 2 (.t 6) (.t 34), none⟩ :: [])) .ret) (.seq (.reg (⟨(some 8), .bld [.int .i64 0, .int .u64 0] [], none⟩ ::⟨none, .st 2 (.t 6) (.t 8), none⟩ :: [])) .ret))))))))))
theorem cd_fretworkref02_Add : Code1 Tryd.prog 16 35 ir_fretworkref02_Add [.c 2 true 6] := ⟨Tryd.call16, _, _, Tryd.func16, rfl, by kernel_rfl, by kernel_rfl, by kernel_rfl, by kernel_rfl⟩

set_option maxHeartbeats 1000000 in
theorem fs_r2Add (r x y : Int) (hx : W128 x) (hy : W128 y) : FS Tryd.prog 16 [.int .i64 r, WN x, WN y] (WN (rAdd r x y)) := by
  refine fs_of_cvc mixed cd_fretworkref02_Add (by simp) ?_
  have ez : ∀ {x : Int}, W128 x → EqOk Tryd.prog true 25 [.int .i64 (hi x), .int .u64 (lo x)] [.int .i64 0, .int .u64 0] (decide (x ≠ 0)) := fun hx => by
    have := eqw true hx W0
    rwa [zero_hi, zero_lo] at this
  have e1 := ez hx
  have e2 := ez hy
  have lt : lt3 r = true → rAdd r x y = if x ≤ y then x else y := fun h => if_pos h
  repeat' (conv => whnf); first
    | ((refine Or.inl ⟨by rfl, _, fs_r1Compare y x hy hx, ?_⟩))
    | ((refine ⟨_, e1, ?_⟩))
    | ((refine ⟨_, e2, ?_⟩))
    | ((refine Or.inl ⟨by rfl, _, fs_r2truth _, ?_⟩))
    | ((refine Or.inl ⟨by rfl, _, fs_r1Add x y, ?_⟩))
    | ((refine Br.beq (by rfl) ?_))
    | ((refine Br.bne (by rfl) ?_))
    | (refine Br.tt ?_)
    | (refine Br.ff ?_)
    | (refine Br.dec (fun h => ?_) (fun h => ?_)) <;> try (exfalso; omega)
    | (refine Br.neg ?_)
    | (refine Br.mk (fun h => ?_) (fun h => ?_))
    | (refine And.intro rfl ?_)
    | (refine And.intro (by omega) ?_)
    | (refine ⟨_, Or.inl ⟨⟨by omega, by omega⟩, rfl⟩, ?_⟩)
    | (refine And.intro (by simp only [lens_all]; first | done | omega) ?_)
    | (refine And.intro (Nat.le_refl _) ?_)
    | fail
  · show WN y = WN _
    rw [lt (by simp [lt3, *]), if_neg]; unfold sgn3 at h; split at h <;> (try split at h) <;> omega
  · show WN x = WN _
    rw [lt (by simp [lt3, *]), if_pos]; unfold sgn3 at h; split at h <;> (try split at h) <;> omega
  · show WN y = WN _
    rw [lt (by simp [lt3, *]), if_neg]; unfold sgn3 at h; split at h <;> (try split at h) <;> omega
  · show WN x = WN _
    rw [lt (by simp [lt3, *]), if_pos]; unfold sgn3 at h; split at h <;> (try split at h) <;> omega
  · show WN y = WN _
    rw [lt (by simp [lt3, *]), if_neg]; unfold sgn3 at h; split at h <;> (try split at h) <;> omega
  · show WN x = WN _
    rw [lt (by simp [lt3, *]), if_pos]; unfold sgn3 at h; split at h <;> (try split at h) <;> omega
  · show WN (tru true) = WN _
    have h' : decide (x ≠ 0) = true := decide_eq_true h
    rw [rAdd, if_neg (by simp [lt3, *]), if_pos (by assumption), h', Bool.true_or]
  · show WN (tru (decide (y ≠ 0))) = WN _
    have h' : decide (x ≠ 0) = false := decide_eq_false h
    rw [rAdd, if_neg (by simp [lt3, *]), if_pos (by assumption), h', Bool.false_or]
  · show WN (x + y) = WN _
    rw [rAdd, if_neg (by simp [lt3, *]), if_neg (by assumption), if_pos (by assumption), WN_norm]
  · show SV.agg [.int .i64 0, .int .u64 0] = WN _
    rw [rAdd, if_neg (by simp [lt3, *]), if_neg (by assumption), if_neg (by assumption)]
    exact wn_zero

theorem rMul_1 (a x : Int) : rMul 1 a x = if 4611686018427387904 ≤ max a x then 4611686018427387904 else min 4611686018427387904 (a + x) := by simp [rMul, isR]
theorem rMul_3 (a x : Int) : rMul 3 a x = if 4611686018427387904 ≤ max a x then 4611686018427387904 else a := by simp [rMul, isR]
theorem rMul_4 (a x : Int) : rMul 4 a x = if 4611686018427387904 ≤ max a x then 4611686018427387904 else min 4611686018427387904 x := by simp [rMul, isR]
theorem rMul_2 (a x : Int) : rMul 2 a x = tru (decide (a ≠ 0) && decide (x ≠ 0)) := by simp [rMul]
theorem rMul_5 (a x : Int) : rMul 5 a x = a * x := by simp [rMul]
theorem rMul_no {r a x : Int} (h1 : ¬ r = 1) (h2 : ¬ r = 2) (h3 : ¬ r = 3) (h4 : ¬ r = 4) (h5 : ¬ r = 5) : rMul r a x = 0 := by
  have hir : isR r = false := by rw [Bool.eq_false_iff]; intro h; simp [isR] at h; omega
  simp [rMul, *]
theorem cl_1 {r a x t : Int} (hr : r = 1) (h : t = if 4611686018427387904 ≤ max a x then 4611686018427387904 else min 4611686018427387904 (a + x)) : WN t = WN (rMul r a x) := by rw [hr, rMul_1, h]
theorem cl_3 {r a x t : Int} (hr : r = 3) (h : t = if 4611686018427387904 ≤ max a x then 4611686018427387904 else a) : WN t = WN (rMul r a x) := by rw [hr, rMul_3, h]
theorem cl_4 {r a x t : Int} (hr : r = 4) (h : t = if 4611686018427387904 ≤ max a x then 4611686018427387904 else min 4611686018427387904 x) : WN t = WN (rMul r a x) := by rw [hr, rMul_4, h]
theorem cl_5 {r a x t : Int} (hr : r = 5) (h : t = a * x) : WN t = WN (rMul r a x) := by rw [hr, rMul_5, h]
theorem cl_2 {r a x : Int} {b : Bool} (hr : r = 2) (h : b = (decide (a ≠ 0) && decide (x ≠ 0))) : WN (tru b) = WN (rMul r a x) := by rw [hr, rMul_2, h]
theorem sgn3_pos (a b : Int) : 0 < sgn3 a b ↔ b < a := by unfold sgn3; split <;> (try split) <;> omega

def ir_fretworkref02_Mul : IR :=
(.seq (.reg (⟨(some 6), .al [.int .i64 0, .int .u64 0], none⟩ :: [])) (.seq (.reg (⟨(some 9), .mv (.t 1), none⟩ ::⟨(some 10), .bin .geq (.t 9) (.c (.int .i64 4611686018427387904)), none⟩ ::⟨(some 11), .mv (.t 10), none⟩ ::⟨(some 12), .mv (.t 2), some (11, false)⟩ ::⟨(some 13), .bin .geq (.t 12) (.c (.int .i64 4611686018427387904)), some (11, false)⟩ ::⟨(some 14), .pick (.t 11) (.c (.bool true)) (.t 13), none⟩ ::⟨(some 7), .mv (.t 14), none⟩ :: [])) (.seq (.reg (⟨(some 15), .mv (.t 0), none⟩ :: [])) (.block 0 (.seq (.reg (⟨(some 18), .bin .eql (.t 15) (.c (.int .i64 1)), none⟩ ::⟨(some 17), .mv (.t 18), none⟩ :: [])) (.cond (.t 17) (.seq (.reg (⟨(some 19), .mv (.t 1), none⟩ ::⟨(some 20), .call (.c (.fn 32 [])) [(.t 19)], none⟩ ::⟨(some 21), .mv (.t 2), none⟩ ::⟨(some 22), .call (.c (.fn 32 [])) [(.t 21)], none⟩ ::⟨(some 23), .call (.c (.fn 39 [])) [(.t 20), (.t 22)], none⟩ ::⟨(some 8), .al [.int .i64 0, .int .u64 0], none⟩ ::⟨none, .st 2 (.t 8) (.t 23), none⟩ :: [])) (.seq (.seq (.draw (⟨(some 24), .mv (.t 7), none⟩ ::⟨(some 25), .mv (.t 24), none⟩ ::⟨(some 26), .ld 2 true (.t 8), some (25, false)⟩ ::⟨(some 27), .call (.c (.fn 32 [])) [(.c (.int .i64 4611686018427387904))], some (25, false)⟩ :: []) (⟨(some 28), .call (.c (.fn 42 [])) [(.t 26), (.t 27)], some (25, false)⟩ ::⟨(some 29), .bin .gtr (.t 28) (.c (.int .i64 0)), some (25, false)⟩ ::⟨(some 30), .pick (.t 25) (.c (.bool true)) (.t 29), none⟩ :: [])) (.cond (.t 30) (.seq (.reg (⟨(some 31), .call (.c (.fn 32 [])) [(.c (.int .i64 4611686018427387904))], none⟩ ::⟨none, .st 2 (.t 6) (.t 31), none⟩ :: [])) .ret) .skip)) (.seq (.reg (⟨(some 32), .ld 2 true (.t 8), none⟩ ::⟨none, .st 2 (.t 6) (.t 32), none⟩ :: [])) .ret))) (.seq (.reg (⟨(some 34), .bin .eql (.t 15) (.c (.int .i64 3)), none⟩ ::⟨(some 33), .mv (.t 34), none⟩ :: [])) (.cond (.t 33) (.seq (.seq (.reg (⟨(some 35), .mv (.t 7), none⟩ :: [])) (.cond (.t 35) (.seq (.reg (⟨(some 36), .call (.c (.fn 32 [])) [(.c (.int .i64 4611686018427387904))], none⟩ ::⟨none, .st 2 (.t 6) (.t 36), none⟩ :: [])) .ret) .skip)) (.seq (.reg (⟨(some 37), .mv (.t 1), none⟩ ::⟨(some 38), .call (.c (.fn 32 [])) [(.t 37)], none⟩ ::⟨none, .st 2 (.t 6) (.t 38), none⟩ :: [])) .ret)) (.seq (.reg (⟨(some 40), .bin .eql (.t 15) (.c (.int .i64 4)), none⟩ ::⟨(some 39), .mv (.t 40), none⟩ :: [])) (.cond (.t 39) (.seq (.seq (.reg (⟨(some 41), .mv (.t 7), none⟩ :: [])) (.cond (.t 41) (.seq (.reg (⟨(some 42), .call (.c (.fn 32 [])) [(.c (.int .i64 4611686018427387904))], none⟩ ::⟨none, .st 2 (.t 6) (.t 42), none⟩ :: [])) .ret) .skip)) (.seq (.reg (⟨(some 43), .mv (.t 2), none⟩ ::⟨(some 44), .call (.c (.fn 32 [])) [(.t 43)], none⟩ ::⟨none, .st 2 (.t 6) (.t 44), none⟩ :: [])) .ret)) (.seq (.reg (⟨(some 46), .bin .eql (.t 15) (.c (.int .i64 2)), none⟩ ::⟨(some 45), .mv (.t 46), none⟩ :: [])) (.cond (.t 45) (.seq (.reg (⟨(some 47), .mv (.t 1), none⟩ ::⟨(some 48), .bin .neq (.t 47) (.c (.int .i64 0)), none⟩ ::⟨(some 49), .mv (.t 48), none⟩ ::⟨(some 50), .mv (.t 2), some (49, true)⟩ ::⟨(some 51), .bin .neq (.t 50) (.c (.int .i64 0)), some (49, true)⟩ ::⟨(some 52), .pick (.t 49) (.t 51) (.c (.bool false)), none⟩ ::⟨(some 53), .call (.c (.fn 43 [])) [(.t 52)], none⟩ ::⟨none, .st 2 (.t 6) (.t 53), none⟩ :: [])) .ret) (.seq (.reg (⟨(some 55), .bin .eql (.t 15) (.c (.int .i64 5)), none⟩ ::⟨(some 54), .mv (.t 55), none⟩ :: [])) (.cond (.t 54) (.seq (.reg (⟨(some 56), .mv (.t 1), none⟩ ::⟨(some 57), .mv (.t 2), none⟩ ::⟨(some 58), .call (.c (.fn 12 [])) [(.t 56), (.t 57)], none⟩ ::⟨none, .st 2 (.t 6) (.t 58), none⟩ :: [])) .ret) (.seq (.reg (⟨(some 16), .bld [.int .i64 0, .int .u64 0] [], none⟩ ::⟨none, .st 2 (.t 6) (.t 16), none⟩ :: [])) .ret)))))))))))))))
theorem cd_fretworkref02_Mul : Code1 Tryd.prog 17 59 ir_fretworkref02_Mul [.c 2 true 6] := ⟨Tryd.call17, _, _, Tryd.func17, rfl, by kernel_rfl, by kernel_rfl, by kernel_rfl, by kernel_rfl⟩

set_option maxHeartbeats 2000000 in
theorem fs_r2Mul (r a x : Int) (ha : I64 a) (hx : I64 x) : FS Tryd.prog 17 [.int .i64 r, .int .i64 a, .int .i64 x] (WN (rMul r a x)) := by
  refine fs_of_cvc mixed cd_fretworkref02_Mul (by simp) ?_
  have hi1 : I64 4611686018427387904 := by unfold I64; omega
  have hax : W128 (a + x) := by unfold I64 at ha hx; unfold W128; omega
  have hs := sgn3_pos (a + x) 4611686018427387904
  have cc := fs_r1Compare (a + x) 4611686018427387904 hax (W64i hi1)
  repeat' (conv => whnf); first
    | ((refine Or.inl ⟨by rfl, _, fs_r1Of 4611686018427387904 hi1, ?_⟩))
    | ((refine Or.inl ⟨by rfl, _, fs_r1Of a ha, ?_⟩))
    | ((refine Or.inl ⟨by rfl, _, fs_r1Of x hx, ?_⟩))
    | ((refine Or.inl ⟨by rfl, _, fs_r1Add a x, ?_⟩))
    | ((refine Or.inl ⟨by rfl, _, cc, ?_⟩))
    | ((refine Or.inl ⟨by rfl, _, fs_r2truth _, ?_⟩))
    | ((refine Or.inl ⟨by rfl, _, fs_r1Mul a x ha hx, ?_⟩))
    | ((refine Br.beq (by rfl) ?_))
    | ((refine Br.bne (by rfl) ?_))
    | (refine Br.tt ?_)
    | (refine Br.ff ?_)
    | (refine Br.dec (fun h => ?_) (fun h => ?_)) <;> try (exfalso; omega)
    | (refine Br.neg ?_)
    | (refine Br.mk (fun h => ?_) (fun h => ?_))
    | (refine And.intro rfl ?_)
    | (refine And.intro (by omega) ?_)
    | (refine ⟨_, Or.inl ⟨⟨by omega, by omega⟩, rfl⟩, ?_⟩)
    | (refine And.intro (by simp only [lens_all]; first | done | omega) ?_)
    | (refine And.intro (Nat.le_refl _) ?_)
    | fail
  all_goals first
    | (show WN _ = WN _; refine cl_1 (by assumption) ?_; split <;> omega)
    | (show WN _ = WN _; refine cl_3 (by assumption) ?_; split <;> omega)
    | (show WN _ = WN _; refine cl_4 (by assumption) ?_; split <;> omega)
    | (show WN _ = WN _; exact cl_5 (by assumption) rfl)
    | (show WN (tru (decide (x ≠ 0))) = WN _; refine cl_2 (by assumption) ?_; rw [show decide (a ≠ 0) = true from decide_eq_true (by assumption), Bool.true_and])
    | (show WN (tru false) = WN _; refine cl_2 (by assumption) ?_; rw [show decide (a ≠ 0) = false from decide_eq_false (by assumption), Bool.false_and])
    | (show SV.agg [.int .i64 0, .int .u64 0] = WN _
       rw [rMul_no (by assumption) (by assumption) (by assumption) (by assumption) (by assumption)]
       exact wn_zero)
end
end Go.Proofs.YtnalgofemikggaaDoor
