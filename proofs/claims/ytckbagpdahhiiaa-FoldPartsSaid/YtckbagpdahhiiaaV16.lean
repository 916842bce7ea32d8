/- Values assigned at some places: Assign of both. -/
import Derived.Test.YtckbagpdahhiiaaV15
namespace Go.Proofs.Ytckbagpdahhiiaa
section
open Go.RowKit
attribute [local irreducible] FS FO IT HS

/-- A value at a place, or none. -/
def asS (N : Int) (o : Option Int) (p : Int) (m : List (Int × Int)) : List (Int × Int) :=
  match o with
  | some v => putR N m p v
  | none => rest (fun y => decide (y.1 = p)) m
def asK (N : Int) (a x : List (Int × Int)) (at' : List Int) : Nat → List (Int × Int)
  | 0 => a
  | k + 1 => asS N (gt x (k : Int)) (at'.getD k 0) (asK N a x at' k)
def asR (n : Int) (l : List (Int × Int)) (at' : List Int) (nx : Int) (lx : List (Int × Int)) : Int × List (Int × Int) × Int :=
  if sn nx lx ≠ (at'.length : Int) then (0, [], 4) else if at'.any (outB (sn n l)) = true then (0, [], 3) else (sn n l, asK (sn n l) (sl n l) (sl nx lx) at' at'.length, 0)
theorem okV_asS {N : Int} {m : List (Int × Int)} (h : OkV N m) (o : Option Int) (p : Int) : OkV N (asS N o p m) := by
  unfold asS
  cases o with
  | some v => exact h.put
  | none => exact h.filt _
theorem okV_asK {N : Int} {a : List (Int × Int)} (h : OkV N a) (x : List (Int × Int)) (at' : List Int) : ∀ k, OkV N (asK N a x at' k)
  | 0 => h
  | k + 1 => okV_asS (okV_asK h x at' k) _ _

def ir_fold_Assign : IR :=
(.seq (.reg (⟨(some 3), .bx (.t 0), none⟩ ::⟨(some 5), .bx (.t 2), none⟩ ::⟨(some 6), .al [.int .i64 0, .nils], none⟩ ::⟨(some 7), .mv (.c (.int .i64 0)), none⟩ :: [])) (.seq (.draw (⟨(some 12), .ld 2 true (.t 3), none⟩ ::⟨(some 13), .call (.c (.fn 79 [])) [(.t 12)], none⟩ ::⟨(some 14), .ld 2 true (.t 5), none⟩ :: []) (⟨(some 15), .call (.c (.fn 79 [])) [(.t 14)], none⟩ ::⟨none, .st 2 (.t 3) (.t 13), none⟩ ::⟨none, .st 2 (.t 5) (.t 15), none⟩ :: [])) (.seq (.block 0 (.seq (.reg (⟨(some 17), .fa 0 (.t 5), none⟩ ::⟨(some 18), .ld 1 false (.t 17), none⟩ ::⟨(some 19), .mv (.t 1), none⟩ ::⟨(some 20), .ln (.t 19), none⟩ ::⟨(some 21), .bin .neq (.t 18) (.t 20), none⟩ ::⟨(some 16), .mv (.t 21), none⟩ :: [])) (.cond (.t 16) (.seq (.reg (⟨(some 22), .bld [.int .i64 0, .nils] [], none⟩ ::⟨none, .st 2 (.t 6) (.t 22), none⟩ ::⟨(some 7), .mv (.c (.int .i64 4)), none⟩ :: [])) .ret) (.seq (.reg (⟨(some 24), .mv (.t 1), none⟩ ::⟨(some 25), .fa 0 (.t 3), none⟩ ::⟨(some 26), .ld 1 false (.t 25), none⟩ ::⟨(some 27), .call (.c (.fn 86 [])) [(.t 24), (.t 26)], none⟩ ::⟨(some 23), .mv (.t 27), none⟩ :: [])) (.cond (.t 23) (.seq (.reg (⟨(some 28), .bld [.int .i64 0, .nils] [], none⟩ ::⟨none, .st 2 (.t 6) (.t 28), none⟩ ::⟨(some 7), .mv (.c (.int .i64 3)), none⟩ :: [])) .ret) .skip))))) (.seq (.seq (.reg (⟨(some 29), .mv (.t 1), none⟩ ::⟨(some 30), .ln (.t 29), none⟩ ::⟨(some 31), .mv (.c (.int .i64 0)), none⟩ :: [])) (.block 1 (.loop (.seq (.reg (⟨(some 32), .bin .lss (.t 31) (.t 30), none⟩ :: [])) (.seq (.cond (.t 32) .skip (.exit 1)) (.seq (.block 2 (.seq (.reg (⟨(some 33), .mv (.t 31), none⟩ ::⟨(some 34), .ia 1 (.t 29) (.t 31), none⟩ ::⟨(some 35), .ld 1 false (.t 34), none⟩ ::⟨(some 8), .mv (.t 33), none⟩ ::⟨(some 9), .mv (.t 35), none⟩ :: [])) (.seq (.reg (⟨(some 37), .ld 2 true (.t 5), none⟩ ::⟨(some 38), .mv (.t 8), none⟩ ::⟨(some 39), .call (.c (.fn 87 [])) [(.t 37), (.t 38)], none⟩ ::⟨(some 36), .mv (.t 39), none⟩ ::⟨(some 40), .ex 0 (.t 36), none⟩ ::⟨(some 41), .ex 1 (.t 36), none⟩ ::⟨(some 10), .mv (.t 40), none⟩ ::⟨(some 11), .mv (.t 41), none⟩ :: [])) (.seq (.seq (.reg (⟨(some 42), .mv (.t 11), none⟩ ::⟨(some 43), .un .not (.t 42), none⟩ :: [])) (.cond (.t 43) (.seq (.reg (⟨(some 44), .ld 2 true (.t 3), none⟩ ::⟨(some 45), .mv (.t 9), none⟩ ::⟨(some 46), .call (.c (.fn 88 [])) [(.t 44), (.t 45)], none⟩ ::⟨none, .st 2 (.t 3) (.t 46), none⟩ :: [])) (.exit 2)) .skip)) (.reg (⟨(some 47), .ld 2 true (.t 3), none⟩ ::⟨(some 48), .mv (.t 9), none⟩ ::⟨(some 49), .mv (.t 10), none⟩ ::⟨(some 50), .call (.c (.fn 89 [])) [(.t 47), (.t 48), (.t 49)], none⟩ ::⟨none, .st 2 (.t 3) (.t 50), none⟩ :: [])))))) (.reg (⟨(some 51), .bin .add (.t 31) (.c (.int .i64 1)), none⟩ ::⟨(some 31), .mv (.t 51), none⟩ :: [])))))))) (.seq (.draw (⟨(some 52), .fa 0 (.t 3), none⟩ ::⟨(some 53), .ld 1 false (.t 52), none⟩ ::⟨(some 54), .fa 1 (.t 3), none⟩ ::⟨(some 55), .ld 1 false (.t 54), none⟩ ::⟨(some 56), .call (.c (.fn 73 [])) [(.t 55)], none⟩ :: []) (⟨(some 57), .bld [.int .i64 0, .nils] [(0, 1, (.t 53)), (1, 1, (.t 56))], none⟩ ::⟨none, .st 2 (.t 6) (.t 57), none⟩ ::⟨(some 7), .mv (.c (.int .i64 0)), none⟩ :: [])) .ret)))))
theorem cd_fold_Assign : Code1 Try.prog 44 58 ir_fold_Assign [.c 2 true 6, .t 7] := ⟨Try.call44, _, _, Try.func44, rfl, by kernel_rfl, by kernel_rfl, by kernel_rfl, by kernel_rfl⟩

set_option maxHeartbeats 4000000 in
theorem fs_Assign (n : Int) (l : List (Int × Int)) (at' : List Int) (nx : Int) (lx : List (Int × Int)) (hl : l.length ≤ 300000000) (hlx : lx.length ≤ 300000000) : FS Try.prog 44 [VC n l, Z at', VC nx lx] (VE (asR n l at' nx lx)) := by
  refine fs_of_cvc mixed cd_fold_Assign (by simp) ?_
  have c1 := fs_fsure n l (by omega)
  have c2 := fs_fsure nx lx (by omega)
  have hok := okV n l
  have hox := okV nx lx
  have c4 : ∀ p, FS Try.prog 87 [VC (sn nx lx) (sl nx lx), .int .i64 p] (.tup [.int .i64 ((gt (sl nx lx) p).getD 0), .bool (gt (sl nx lx) p).isSome]) := fun p => by
    have := fs_Get (sn nx lx) (sl nx lx) p (by have := sl_len nx lx; omega)
    rwa [hox.sl, valI_gt, hasI'_gt] at this
  obtain ⟨t, ht⟩ : ∃ t, asR n l at' nx lx = t := ⟨_, rfl⟩
  rw [ht]
  unfold asR at ht
  generalize sn n l = N1 at *
  generalize sl n l = a at *
  generalize sn nx lx = N2 at *
  generalize sl nx lx = x at *
  have hzl := zs_len at'
  by_cases h4 : N2 ≠ (at'.length : Int)
  · rw [if_pos h4] at ht
    subst ht
    repeat' (conv => whnf); first
      | ((refine Or.inl ⟨by rfl, _, c1, ?_⟩))
      | ((refine Or.inl ⟨by rfl, _, c2, ?_⟩))
      | ((refine Br.beq (by rfl) ?_))
      | ((refine Br.bne (by rfl) ?_))
      | ((refine And.intro (Or.inl (Nat.zero_le _)) ?_))
      | (refine Br.tt ?_)
      | (refine Br.ff ?_)
      | (refine Br.dec (fun h => ?_) (fun h => ?_)) <;> try (exfalso; omega)
      | (refine Br.neg ?_)
      | (refine Br.mk (fun h => ?_) (fun h => ?_))
      | (refine And.intro rfl ?_)
      | (refine And.intro (by omega) ?_)
      | (refine ⟨_, Or.inl ⟨⟨by omega, by omega⟩, rfl⟩, ?_⟩)
      | (refine And.intro (by simp only [lens_all]; first | done | omega) ?_)
      | (refine And.intro (Nat.le_refl _) ?_)
      | fail
    all_goals exact ⟨⟨rfl, rfl, trivial⟩, rfl, trivial⟩
  · rw [if_neg h4] at ht
    have hN2 := hox.n1
    have c3 := fs_outside at' N1 (by omega)
    cases ho : at'.any (outB N1) with
    | true =>
      rw [ho] at c3 ht
      rw [if_pos rfl] at ht
      subst ht
      repeat' (conv => whnf); first
        | ((refine Or.inl ⟨by rfl, _, c1, ?_⟩))
        | ((refine Or.inl ⟨by rfl, _, c2, ?_⟩))
        | ((refine Or.inl ⟨by rfl, _, c3, ?_⟩))
        | ((refine Br.beq (by rfl) ?_))
        | ((refine Br.bne (by rfl) ?_))
        | ((refine And.intro (Or.inl (Nat.zero_le _)) ?_))
        | (refine Br.tt ?_)
        | (refine Br.ff ?_)
        | (refine Br.dec (fun h => ?_) (fun h => ?_)) <;> try (exfalso; omega)
        | (refine Br.neg ?_)
        | (refine Br.mk (fun h => ?_) (fun h => ?_))
        | (refine And.intro rfl ?_)
        | (refine And.intro (by omega) ?_)
        | (refine ⟨_, Or.inl ⟨⟨by omega, by omega⟩, rfl⟩, ?_⟩)
        | (refine And.intro (by simp only [lens_all]; first | done | omega) ?_)
        | (refine And.intro (Nat.le_refl _) ?_)
        | fail
      all_goals exact ⟨⟨rfl, rfl, trivial⟩, rfl, trivial⟩
    | false =>
      rw [ho] at c3 ht
      rw [if_neg (by simp)] at ht
      subst ht
      repeat' (conv => whnf); first
        | ((refine Or.inl ⟨by rfl, _, c1, ?_⟩))
        | ((refine Or.inl ⟨by rfl, _, c2, ?_⟩))
        | ((refine Or.inl ⟨by rfl, _, c3, ?_⟩))
        | ((refine Br.beq (by rfl) ?_))
        | ((refine Br.bne (by rfl) ?_))
        | ((refine And.intro (Or.inl (Nat.zero_le _)) ?_))
        | (refine Br.tt ?_)
        | (refine Br.ff ?_)
        | (refine Br.dec (fun h => ?_) (fun h => ?_)) <;> try (exfalso; omega)
        | (refine Br.neg ?_)
        | (refine Br.mk (fun h => ?_) (fun h => ?_))
        | (refine And.intro rfl ?_)
        | (refine And.intro (by omega) ?_)
        | (refine ⟨_, Or.inl ⟨⟨by omega, by omega⟩, rfl⟩, ?_⟩)
        | (refine And.intro (by simp only [lens_all]; first | done | omega) ?_)
        | (refine And.intro (Nat.le_refl _) ?_)
        | fail
      refine ⟨Nat, fun j => j ≤ at'.length, fun j => [(3, .ptr 0 0 0 0), (5, .ptr 1 0 0 0), (6, .ptr 2 0 0 0), (29, Z at'), (30, .int .i64 (at'.length : Int)), (31, .int .i64 (j : Int))], fun j => [.vars [.int .i64 N1, IL (asK N1 a x at' j)], .vars [.int .i64 N2, IL x], .vars [.int .i64 0, .nils]], fun _ => none, fun j => at'.length - j,
        ⟨0, Nat.zero_le _, ⟨rfl, rfl, rfl, rfl, ?_, rfl, trivial⟩, ⟨⟨rfl, rfl, trivial⟩, ⟨rfl, rfl, trivial⟩, ⟨rfl, rfl, trivial⟩, trivial⟩, rfl⟩, fun j hj => ?_⟩
      · exact congrArg (SV.int .i64) (congrArg Int.ofNat hzl)
      have hj : j ≤ at'.length := hj
      have hm := okV_asK hok x at' j
      have hml := hm.le
      by_cases hja : j < at'.length
      · obtain ⟨p, hp⟩ : ∃ p, at'.getD j 0 = p := ⟨_, rfl⟩
        have c5 := c4 (j : Int)
        have hst : asK N1 a x at' (j + 1) = asS N1 (gt x (j : Int)) p (asK N1 a x at' j) := by rw [← hp]; rfl
        cases hg : gt x (j : Int) with
        | none =>
          rw [hg] at hst c5
          have c6 := fs_vDrop N1 (asK N1 a x at' j) p (by omega)
          rw [hm.sn, hm.sl] at c6
          repeat' (conv => whnf); first
            | ((refine zs_go (i := j) (by omega) hp ?_))
            | ((refine Or.inl ⟨by rfl, _, c5, ?_⟩))
            | ((refine Or.inl ⟨by rfl, _, c6, ?_⟩))
            | ((refine Br.beq (by rfl) ?_))
            | ((refine Br.bne (by rfl) ?_))
            | ((refine And.intro (Or.inl (Nat.zero_le _)) ?_))
            | (refine Br.tt ?_)
            | (refine Br.ff ?_)
            | (refine Br.dec (fun h => ?_) (fun h => ?_)) <;> try (exfalso; omega)
            | (refine Br.neg ?_)
            | (refine Br.mk (fun h => ?_) (fun h => ?_))
            | (refine And.intro rfl ?_)
            | (refine And.intro (by omega) ?_)
            | (refine ⟨_, Or.inl ⟨⟨by omega, by omega⟩, rfl⟩, ?_⟩)
            | (refine And.intro (by simp only [lens_all]; first | done | omega) ?_)
            | (refine And.intro (Nat.le_refl _) ?_)
            | fail
          refine ⟨j + 1, (show j + 1 ≤ at'.length by omega), (show at'.length - (j + 1) < at'.length - j by omega), ⟨rfl, rfl, rfl, rfl, rfl, rfl, trivial⟩, ⟨⟨rfl, ?_, trivial⟩, ⟨rfl, rfl, trivial⟩, ⟨rfl, rfl, trivial⟩, trivial⟩, rfl⟩
          rw [hst]; exact rfl
        | some v =>
          rw [hg] at hst c5
          have c6 := fs_vPut N1 (asK N1 a x at' j) p v (by omega)
          rw [hm.sn, hm.sl] at c6
          repeat' (conv => whnf); first
            | ((refine zs_go (i := j) (by omega) hp ?_))
            | ((refine Or.inl ⟨by rfl, _, c5, ?_⟩))
            | ((refine Or.inl ⟨by rfl, _, c6, ?_⟩))
            | ((refine Br.beq (by rfl) ?_))
            | ((refine Br.bne (by rfl) ?_))
            | ((refine And.intro (Or.inl (Nat.zero_le _)) ?_))
            | (refine Br.tt ?_)
            | (refine Br.ff ?_)
            | (refine Br.dec (fun h => ?_) (fun h => ?_)) <;> try (exfalso; omega)
            | (refine Br.neg ?_)
            | (refine Br.mk (fun h => ?_) (fun h => ?_))
            | (refine And.intro rfl ?_)
            | (refine And.intro (by omega) ?_)
            | (refine ⟨_, Or.inl ⟨⟨by omega, by omega⟩, rfl⟩, ?_⟩)
            | (refine And.intro (by simp only [lens_all]; first | done | omega) ?_)
            | (refine And.intro (Nat.le_refl _) ?_)
            | fail
          refine ⟨j + 1, (show j + 1 ≤ at'.length by omega), (show at'.length - (j + 1) < at'.length - j by omega), ⟨rfl, rfl, rfl, rfl, rfl, rfl, trivial⟩, ⟨⟨rfl, ?_, trivial⟩, ⟨rfl, rfl, trivial⟩, ⟨rfl, rfl, trivial⟩, trivial⟩, rfl⟩
          rw [hst]; exact rfl
      · obtain rfl : j = at'.length := by omega
        have c7 := fo_vClone (asK N1 a x at' at'.length) (by omega)
        repeat' (conv => whnf); first
          | ((refine Or.inr (Or.inl ⟨by rfl, _, _, c7, ?_⟩)))
          | ((refine Br.beq (by rfl) ?_))
          | ((refine Br.bne (by rfl) ?_))
          | ((refine And.intro (Or.inl (Nat.zero_le _)) ?_))
          | (refine Br.tt ?_)
          | (refine Br.ff ?_)
          | (refine Br.dec (fun h => ?_) (fun h => ?_)) <;> try (exfalso; omega)
          | (refine Br.neg ?_)
          | (refine Br.mk (fun h => ?_) (fun h => ?_))
          | (refine And.intro rfl ?_)
          | (refine And.intro (by omega) ?_)
          | (refine ⟨_, Or.inl ⟨⟨by omega, by omega⟩, rfl⟩, ?_⟩)
          | (refine And.intro (by simp only [lens_all, its_len]; first | done | omega) ?_)
          | (refine And.intro (Nat.le_refl _) ?_)
          | fail
        conv => whnf
        rw [frz_its]
        rfl

def ir_fretworkref12_Assign : IR :=
(.seq (.reg (⟨(some 3), .bx (.t 0), none⟩ ::⟨(some 5), .bx (.t 2), none⟩ ::⟨(some 6), .al [.int .i64 0, .nils], none⟩ ::⟨(some 7), .mv (.c (.int .i64 0)), none⟩ :: [])) (.seq (.draw (⟨(some 13), .ld 2 true (.t 3), none⟩ ::⟨(some 14), .call (.c (.fn 62 [])) [(.t 13)], none⟩ ::⟨(some 15), .ld 2 true (.t 5), none⟩ :: []) (⟨(some 16), .call (.c (.fn 62 [])) [(.t 15)], none⟩ ::⟨none, .st 2 (.t 3) (.t 14), none⟩ ::⟨none, .st 2 (.t 5) (.t 16), none⟩ :: [])) (.seq (.seq (.reg (⟨(some 17), .fa 0 (.t 5), none⟩ ::⟨(some 18), .ld 1 false (.t 17), none⟩ ::⟨(some 19), .mv (.t 1), none⟩ ::⟨(some 20), .ln (.t 19), none⟩ ::⟨(some 21), .bin .neq (.t 18) (.t 20), none⟩ :: [])) (.cond (.t 21) (.seq (.reg (⟨(some 22), .bld [.int .i64 0, .nils] [], none⟩ ::⟨none, .st 2 (.t 6) (.t 22), none⟩ ::⟨(some 7), .mv (.c (.int .i64 4)), none⟩ :: [])) .ret) .skip)) (.seq (.seq (.reg (⟨(some 8), .mv (.c (.int .i64 0)), none⟩ :: [])) (.block 0 (.loop (.seq (.seq (.reg (⟨(some 23), .mv (.t 8), none⟩ ::⟨(some 24), .mv (.t 1), none⟩ ::⟨(some 25), .ln (.t 24), none⟩ ::⟨(some 26), .bin .lss (.t 23) (.t 25), none⟩ :: [])) (.cond (.t 26) .skip (.exit 0))) (.seq (.block 1 (.seq (.draw (⟨(some 29), .mv (.t 1), none⟩ ::⟨(some 30), .mv (.t 8), none⟩ ::⟨(some 31), .ia 1 (.t 29) (.t 30), none⟩ ::⟨(some 32), .ld 1 false (.t 31), none⟩ ::⟨(some 33), .bin .lss (.t 32) (.c (.int .i64 0)), none⟩ ::⟨(some 34), .mv (.t 33), none⟩ ::⟨(some 35), .mv (.t 1), some (34, false)⟩ ::⟨(some 36), .mv (.t 8), some (34, false)⟩ ::⟨(some 37), .ia 1 (.t 35) (.t 36), some (34, false)⟩ ::⟨(some 38), .ld 1 false (.t 37), some (34, false)⟩ ::⟨(some 39), .fa 0 (.t 3), some (34, false)⟩ ::⟨(some 40), .ld 1 false (.t 39), some (34, false)⟩ :: []) (⟨(some 41), .bin .geq (.t 38) (.t 40), some (34, false)⟩ ::⟨(some 42), .pick (.t 34) (.c (.bool true)) (.t 41), none⟩ :: [])) (.cond (.t 42) (.seq (.reg (⟨(some 43), .bld [.int .i64 0, .nils] [], none⟩ ::⟨none, .st 2 (.t 6) (.t 43), none⟩ ::⟨(some 7), .mv (.c (.int .i64 3)), none⟩ :: [])) .ret) .skip))) (.reg (⟨(some 27), .mv (.t 8), none⟩ ::⟨(some 28), .bin .add (.t 27) (.c (.int .i64 1)), none⟩ ::⟨(some 8), .mv (.t 28), none⟩ :: []))))))) (.seq (.reg (⟨(some 44), .ld 2 true (.t 3), none⟩ ::⟨(some 9), .al [.int .i64 0, .nils], none⟩ ::⟨none, .st 2 (.t 9) (.t 44), none⟩ :: [])) (.seq (.seq (.reg (⟨(some 10), .mv (.c (.int .i64 0)), none⟩ :: [])) (.block 2 (.loop (.seq (.seq (.reg (⟨(some 45), .mv (.t 10), none⟩ ::⟨(some 46), .mv (.t 1), none⟩ ::⟨(some 47), .ln (.t 46), none⟩ ::⟨(some 48), .bin .lss (.t 45) (.t 47), none⟩ :: [])) (.cond (.t 48) .skip (.exit 2))) (.seq (.block 3 (.seq (.reg (⟨(some 52), .ld 2 true (.t 5), none⟩ ::⟨(some 53), .mv (.t 10), none⟩ ::⟨(some 54), .call (.c (.fn 50 [])) [(.t 52), (.t 53)], none⟩ ::⟨(some 51), .mv (.t 54), none⟩ ::⟨(some 55), .ex 0 (.t 51), none⟩ ::⟨(some 56), .ex 1 (.t 51), none⟩ ::⟨(some 11), .mv (.t 55), none⟩ ::⟨(some 12), .mv (.t 56), none⟩ :: [])) (.seq (.reg (⟨(some 57), .mv (.t 12), none⟩ :: [])) (.cond (.t 57) (.draw (⟨(some 58), .ld 2 true (.t 9), none⟩ ::⟨(some 59), .mv (.t 1), none⟩ ::⟨(some 60), .mv (.t 10), none⟩ ::⟨(some 61), .ia 1 (.t 59) (.t 60), none⟩ ::⟨(some 62), .ld 1 false (.t 61), none⟩ ::⟨(some 63), .mv (.t 11), none⟩ :: []) (⟨(some 64), .call (.c (.fn 69 [])) [(.t 58), (.t 62), (.t 63)], none⟩ ::⟨none, .st 2 (.t 9) (.t 64), none⟩ :: [])) (.draw (⟨(some 65), .ld 2 true (.t 9), none⟩ ::⟨(some 66), .mv (.t 1), none⟩ ::⟨(some 67), .mv (.t 10), none⟩ ::⟨(some 68), .ia 1 (.t 66) (.t 67), none⟩ ::⟨(some 69), .ld 1 false (.t 68), none⟩ :: []) (⟨(some 70), .call (.c (.fn 90 [])) [(.t 65), (.t 69)], none⟩ ::⟨none, .st 2 (.t 9) (.t 70), none⟩ :: [])))))) (.reg (⟨(some 49), .mv (.t 10), none⟩ ::⟨(some 50), .bin .add (.t 49) (.c (.int .i64 1)), none⟩ ::⟨(some 10), .mv (.t 50), none⟩ :: []))))))) (.seq (.reg (⟨(some 71), .ld 2 true (.t 9), none⟩ ::⟨none, .st 2 (.t 6) (.t 71), none⟩ ::⟨(some 7), .mv (.c (.int .i64 0)), none⟩ :: [])) .ret)))))))
theorem cd_fretworkref12_Assign : Code1 Try.prog 45 72 ir_fretworkref12_Assign [.c 2 true 6, .t 7] := ⟨Try.call45, _, _, Try.func45, rfl, by kernel_rfl, by kernel_rfl, by kernel_rfl, by kernel_rfl⟩

set_option maxHeartbeats 4000000 in
theorem fs_r12Assign (n : Int) (l : List (Int × Int)) (at' : List Int) (nx : Int) (lx : List (Int × Int)) (hl : l.length ≤ 300000000) (hlx : lx.length ≤ 300000000) : FS Try.prog 45 [VC n l, Z at', VC nx lx] (VE (asR n l at' nx lx)) := by
  refine fs_of_cvc mixed cd_fretworkref12_Assign (by simp) ?_
  have c1 := fs_r9Sure n l (by omega)
  have c2 := fs_r9Sure nx lx (by omega)
  have hok := okV n l
  have hox := okV nx lx
  have c4 : ∀ p, FS Try.prog 50 [VC (sn nx lx) (sl nx lx), .int .i64 p] (.tup [.int .i64 ((gt (sl nx lx) p).getD 0), .bool (gt (sl nx lx) p).isSome]) := fun p => by
    have := fs_r9Get (sn nx lx) (sl nx lx) p (by have := sl_len nx lx; omega)
    rwa [hox.sl] at this
  obtain ⟨t, ht⟩ : ∃ t, asR n l at' nx lx = t := ⟨_, rfl⟩
  rw [ht]
  unfold asR at ht
  generalize sn n l = N1 at *
  generalize sl n l = a at *
  generalize sn nx lx = N2 at *
  generalize sl nx lx = x at *
  have hzl := zs_len at'
  by_cases h4 : N2 ≠ (at'.length : Int)
  · rw [if_pos h4] at ht
    subst ht
    repeat' (conv => whnf); first
      | ((refine Or.inl ⟨by rfl, _, c1, ?_⟩))
      | ((refine Or.inl ⟨by rfl, _, c2, ?_⟩))
      | ((refine Br.beq (by rfl) ?_))
      | ((refine Br.bne (by rfl) ?_))
      | ((refine And.intro (Or.inl (Nat.zero_le _)) ?_))
      | (refine Br.tt ?_)
      | (refine Br.ff ?_)
      | (refine Br.dec (fun h => ?_) (fun h => ?_)) <;> try (exfalso; omega)
      | (refine Br.neg ?_)
      | (refine Br.mk (fun h => ?_) (fun h => ?_))
      | (refine And.intro rfl ?_)
      | (refine And.intro (by omega) ?_)
      | (refine ⟨_, Or.inl ⟨⟨by omega, by omega⟩, rfl⟩, ?_⟩)
      | (refine And.intro (by simp only [lens_all]; first | done | omega) ?_)
      | (refine And.intro (Nat.le_refl _) ?_)
      | fail
    all_goals exact ⟨⟨rfl, rfl, trivial⟩, rfl, trivial⟩
  · rw [if_neg h4] at ht
    have hN2 := hox.n1
    repeat' (conv => whnf); first
      | ((refine Or.inl ⟨by rfl, _, c1, ?_⟩))
      | ((refine Or.inl ⟨by rfl, _, c2, ?_⟩))
      | ((refine Br.beq (by rfl) ?_))
      | ((refine Br.bne (by rfl) ?_))
      | ((refine And.intro (Or.inl (Nat.zero_le _)) ?_))
      | (refine Br.tt ?_)
      | (refine Br.ff ?_)
      | (refine Br.dec (fun h => ?_) (fun h => ?_)) <;> try (exfalso; omega)
      | (refine Br.neg ?_)
      | (refine Br.mk (fun h => ?_) (fun h => ?_))
      | (refine And.intro rfl ?_)
      | (refine And.intro (by omega) ?_)
      | (refine ⟨_, Or.inl ⟨⟨by omega, by omega⟩, rfl⟩, ?_⟩)
      | (refine And.intro (by simp only [lens_all]; first | done | omega) ?_)
      | (refine And.intro (Nat.le_refl _) ?_)
      | fail
    refine ⟨Nat, fun j => j ≤ at'.length ∧ ∀ i, i < j → outB N1 (at'.getD i 0) = false, fun j => [(1, Z at'), (3, .ptr 0 0 0 0), (5, .ptr 1 0 0 0), (6, .ptr 2 0 0 0), (8, .int .i64 (j : Int))], fun j => [.vars [.int .i64 N1, IL a], .vars [.int .i64 N2, IL x], .vars [.int .i64 0, .nils]], fun _ => none, fun j => at'.length - j,
      ⟨0, ⟨Nat.zero_le _, fun i hi => by omega⟩, ⟨rfl, rfl, rfl, rfl, rfl, trivial⟩, ⟨⟨rfl, rfl, trivial⟩, ⟨rfl, rfl, trivial⟩, ⟨rfl, rfl, trivial⟩, trivial⟩, rfl⟩, fun j hj => ?_⟩
    obtain ⟨hj, hjo⟩ := hj
    by_cases hja : j < at'.length
    · obtain ⟨p, hp⟩ : ∃ p, at'.getD j 0 = p := ⟨_, rfl⟩
      have hout : outB N1 p = true → (0, [], 3) = t := fun h => by
        rw [← ht, if_pos]
        exact List.any_eq_true.2 ⟨p, by rw [← hp]; simp [hja], h⟩
      have hmore : outB N1 p = false → ∀ i, i < j + 1 → outB N1 (at'.getD i 0) = false := fun h i hi => by
        rcases Nat.lt_or_ge i j with h' | h'
        · exact hjo i h'
        · obtain rfl : i = j := by omega
          rw [hp]; exact h
      repeat' (conv => whnf); first
        | ((refine zs_go (i := j) (by omega) hp ?_))
        | ((refine Br.beq (by rfl) ?_))
        | ((refine Br.bne (by rfl) ?_))
        | ((refine And.intro (Or.inl (Nat.zero_le _)) ?_))
        | (refine Br.tt ?_)
        | (refine Br.ff ?_)
        | (refine Br.dec (fun h => ?_) (fun h => ?_)) <;> try (exfalso; omega)
        | (refine Br.neg ?_)
        | (refine Br.mk (fun h => ?_) (fun h => ?_))
        | (refine And.intro rfl ?_)
        | (refine And.intro (by omega) ?_)
        | (refine ⟨_, Or.inl ⟨⟨by omega, by omega⟩, rfl⟩, ?_⟩)
        | (refine And.intro (by simp only [lens_all]; first | done | omega) ?_)
        | (refine And.intro (Nat.le_refl _) ?_)
        | fail
      · obtain rfl := hout (by unfold outB; rw [decide_eq_true (show p < 0 by omega)]; rfl)
        exact ⟨⟨rfl, rfl, trivial⟩, rfl, trivial⟩
      · obtain rfl := hout (by unfold outB; rw [decide_eq_true (show N1 ≤ p by omega), Bool.or_true])
        exact ⟨⟨rfl, rfl, trivial⟩, rfl, trivial⟩
      · exact ⟨j + 1, ⟨by omega, hmore (by unfold outB; rw [decide_eq_false (show ¬ p < 0 by omega), decide_eq_false (show ¬ N1 ≤ p by omega)]; rfl)⟩, (show at'.length - (j + 1) < at'.length - j by omega), ⟨rfl, rfl, rfl, rfl, rfl, trivial⟩, ⟨⟨rfl, rfl, trivial⟩, ⟨rfl, rfl, trivial⟩, ⟨rfl, rfl, trivial⟩, trivial⟩, rfl⟩
    · obtain rfl : j = at'.length := by omega
      have hno : ¬ at'.any (outB N1) = true := fun h => by
        obtain ⟨x, hx, hx2⟩ := List.any_eq_true.1 h
        obtain ⟨i, hi, rfl⟩ := List.mem_iff_getElem.1 hx
        have := hjo i hi
        rw [show at'.getD i 0 = at'[i] by simp [hi], hx2] at this
        cases this
      rw [if_neg hno] at ht
      subst ht
      repeat' (conv => whnf); first
        | ((refine Br.beq (by rfl) ?_))
        | ((refine Br.bne (by rfl) ?_))
        | ((refine And.intro (Or.inl (Nat.zero_le _)) ?_))
        | (refine Br.tt ?_)
        | (refine Br.ff ?_)
        | (refine Br.dec (fun h => ?_) (fun h => ?_)) <;> try (exfalso; omega)
        | (refine Br.neg ?_)
        | (refine Br.mk (fun h => ?_) (fun h => ?_))
        | (refine And.intro rfl ?_)
        | (refine And.intro (by omega) ?_)
        | (refine ⟨_, Or.inl ⟨⟨by omega, by omega⟩, rfl⟩, ?_⟩)
        | (refine And.intro (by simp only [lens_all]; first | done | omega) ?_)
        | (refine And.intro (Nat.le_refl _) ?_)
        | fail
      refine ⟨Nat, fun j => j ≤ at'.length, fun j => [(1, Z at'), (5, .ptr 1 0 0 0), (6, .ptr 2 0 0 0), (9, .ptr 3 0 0 0), (10, .int .i64 (j : Int))], fun j => [.vars [.int .i64 N1, IL a], .vars [.int .i64 N2, IL x], .vars [.int .i64 0, .nils], .vars [.int .i64 N1, IL (asK N1 a x at' j)]], fun _ => none, fun j => at'.length - j,
        ⟨0, Nat.zero_le _, ⟨rfl, rfl, rfl, rfl, rfl, trivial⟩, ⟨⟨rfl, rfl, trivial⟩, ⟨rfl, rfl, trivial⟩, ⟨rfl, rfl, trivial⟩, ⟨rfl, rfl, trivial⟩, trivial⟩, rfl⟩, fun j hj => ?_⟩
      have hj : j ≤ at'.length := hj
      have hm := okV_asK hok x at' j
      have hml := hm.le
      by_cases hja : j < at'.length
      · obtain ⟨p, hp⟩ : ∃ p, at'.getD j 0 = p := ⟨_, rfl⟩
        have c5 := c4 (j : Int)
        have hst : asK N1 a x at' (j + 1) = asS N1 (gt x (j : Int)) p (asK N1 a x at' j) := by rw [← hp]; rfl
        cases hg : gt x (j : Int) with
        | none =>
          rw [hg] at hst c5
          have c6 := fs_r9Drop N1 (asK N1 a x at' j) p (by omega)
          rw [hm.sn, hm.sl] at c6
          repeat' (conv => whnf); first
            | ((refine zs_go (i := j) (by omega) hp ?_))
            | ((refine Or.inl ⟨by rfl, _, c5, ?_⟩))
            | ((refine Or.inl ⟨by rfl, _, c6, ?_⟩))
            | ((refine Br.beq (by rfl) ?_))
            | ((refine Br.bne (by rfl) ?_))
            | ((refine And.intro (Or.inl (Nat.zero_le _)) ?_))
            | (refine Br.tt ?_)
            | (refine Br.ff ?_)
            | (refine Br.dec (fun h => ?_) (fun h => ?_)) <;> try (exfalso; omega)
            | (refine Br.neg ?_)
            | (refine Br.mk (fun h => ?_) (fun h => ?_))
            | (refine And.intro rfl ?_)
            | (refine And.intro (by omega) ?_)
            | (refine ⟨_, Or.inl ⟨⟨by omega, by omega⟩, rfl⟩, ?_⟩)
            | (refine And.intro (by simp only [lens_all]; first | done | omega) ?_)
            | (refine And.intro (Nat.le_refl _) ?_)
            | fail
          refine ⟨j + 1, (show j + 1 ≤ at'.length by omega), (show at'.length - (j + 1) < at'.length - j by omega), ⟨rfl, rfl, rfl, rfl, rfl, trivial⟩, ⟨⟨rfl, rfl, trivial⟩, ⟨rfl, rfl, trivial⟩, ⟨rfl, rfl, trivial⟩, ⟨rfl, ?_, trivial⟩, trivial⟩, rfl⟩
          rw [hst]; exact rfl
        | some v =>
          rw [hg] at hst c5
          have c6 := fs_r9Put N1 (asK N1 a x at' j) p v (by omega)
          rw [hm.sn, hm.sl] at c6
          repeat' (conv => whnf); first
            | ((refine zs_go (i := j) (by omega) hp ?_))
            | ((refine Or.inl ⟨by rfl, _, c5, ?_⟩))
            | ((refine Or.inl ⟨by rfl, _, c6, ?_⟩))
            | ((refine Br.beq (by rfl) ?_))
            | ((refine Br.bne (by rfl) ?_))
            | ((refine And.intro (Or.inl (Nat.zero_le _)) ?_))
            | (refine Br.tt ?_)
            | (refine Br.ff ?_)
            | (refine Br.dec (fun h => ?_) (fun h => ?_)) <;> try (exfalso; omega)
            | (refine Br.neg ?_)
            | (refine Br.mk (fun h => ?_) (fun h => ?_))
            | (refine And.intro rfl ?_)
            | (refine And.intro (by omega) ?_)
            | (refine ⟨_, Or.inl ⟨⟨by omega, by omega⟩, rfl⟩, ?_⟩)
            | (refine And.intro (by simp only [lens_all]; first | done | omega) ?_)
            | (refine And.intro (Nat.le_refl _) ?_)
            | fail
          refine ⟨j + 1, (show j + 1 ≤ at'.length by omega), (show at'.length - (j + 1) < at'.length - j by omega), ⟨rfl, rfl, rfl, rfl, rfl, trivial⟩, ⟨⟨rfl, rfl, trivial⟩, ⟨rfl, rfl, trivial⟩, ⟨rfl, rfl, trivial⟩, ⟨rfl, ?_, trivial⟩, trivial⟩, rfl⟩
          rw [hst]; exact rfl
      · obtain rfl : j = at'.length := by omega
        repeat' (conv => whnf); first
          | ((refine Br.beq (by rfl) ?_))
          | ((refine Br.bne (by rfl) ?_))
          | ((refine And.intro (Or.inl (Nat.zero_le _)) ?_))
          | (refine Br.tt ?_)
          | (refine Br.ff ?_)
          | (refine Br.dec (fun h => ?_) (fun h => ?_)) <;> try (exfalso; omega)
          | (refine Br.neg ?_)
          | (refine Br.mk (fun h => ?_) (fun h => ?_))
          | (refine And.intro rfl ?_)
          | (refine And.intro (by omega) ?_)
          | (refine ⟨_, Or.inl ⟨⟨by omega, by omega⟩, rfl⟩, ?_⟩)
          | (refine And.intro (by simp only [lens_all]; first | done | omega) ?_)
          | (refine And.intro (Nat.le_refl _) ?_)
          | fail
        exact rfl
end
end Go.Proofs.Ytckbagpdahhiiaa
