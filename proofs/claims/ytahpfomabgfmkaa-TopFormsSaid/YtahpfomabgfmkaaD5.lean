/- Places as values, of both; the document's fill. Vectors one behind the other: the program's function. Items put together by place (plain): what a map of sums holds, and what the document makes of it. -/
import Derived.Test.YtahpfomabgfmkaaD4
namespace Go.Proofs.Ytahpfomabgfmkaa
section
open Go.RowKit
attribute [local irreducible] FS FO IT HS

def idxL (l : List (Int × Int)) : List (Int × Int) := l.map fun x => (x.1, x.1)
theorem idxL_len (l : List (Int × Int)) : (idxL l).length = l.length := by simp [idxL]

def ir_spvec_Index_1 : IR :=
(.seq (.reg (⟨(some 1), .bx (.t 0), none⟩ ::⟨(some 2), .al [.int .i64 0, .int .i64 0], none⟩ :: [])) (.seq (.reg (⟨(some 3), .fa 0 (.t 1), none⟩ ::⟨(some 4), .ld 1 false (.t 3), none⟩ ::⟨(some 5), .fa 0 (.t 1), none⟩ ::⟨(some 6), .ld 1 false (.t 5), none⟩ ::⟨(some 7), .bld [.int .i64 0, .int .i64 0] [(0, 1, (.t 4)), (1, 1, (.t 6))], none⟩ ::⟨none, .st 2 (.t 2) (.t 7), none⟩ :: [])) .ret))
theorem cd_spvec_Index_1 : Code1 Try.prog 111 8 ir_spvec_Index_1 [.c 2 true 2] := ⟨Try.call111, _, _, Try.func111, rfl, by kernel_rfl, by kernel_rfl, by kernel_rfl, by kernel_rfl⟩

theorem fs_idx1 (x y : Int) : FS Try.prog 111 [.agg [.int .i64 x, .int .i64 y]] (.agg [.int .i64 x, .int .i64 x]) := by
  refine fs_of_cvc mixed cd_spvec_Index_1 (by simp) ?_
  repeat' (conv => whnf); first
    | ((refine Br.beq (by rfl) ?_))
    | ((refine Br.bne (by rfl) ?_))
    | ((refine And.intro (Or.inl (Nat.zero_le _)) ?_))
    | ((refine And.intro (show _ ≤ _ from Nat.le_of_ble_eq_true rfl) ?_))
    | ((refine And.intro (by intro y hy; simp at hy; subst hy; rfl) ?_))
    | (refine Br.tt ?_)
    | (refine Br.ff ?_)
    | (refine Br.dec (fun h => ?_) (fun h => ?_)) <;> try (exfalso; omega)
    | (refine Br.neg ?_)
    | (refine Br.mk (fun h => ?_) (fun h => ?_))
    | (refine And.intro rfl ?_)
    | (refine And.intro (by omega) ?_)
    | (refine ⟨_, Or.inl ⟨⟨by omega, by omega⟩, rfl⟩, ?_⟩)
    | (refine And.intro (by simp only [lens_all, its_len, vecs_len]; first | done | omega) ?_)
    | (refine And.intro (Nat.le_refl _) ?_)
    | fail
  first | exact rfl | exact ⟨⟨rfl, rfl, trivial⟩, trivial⟩

def ir_spvec_Index : IR :=
(.seq (.reg (⟨(some 1), .bx (.t 0), none⟩ ::⟨(some 2), .al [.int .i64 0, .nils], none⟩ :: [])) (.seq (.reg (⟨(some 3), .ld 2 true (.t 1), none⟩ ::⟨(some 4), .call (.c (.fn 91 [])) [(.t 3), (.c (.fn 111 []))], none⟩ ::⟨none, .st 2 (.t 2) (.t 4), none⟩ :: [])) .ret))
theorem cd_spvec_Index : Code1 Try.prog 61 5 ir_spvec_Index [.c 2 true 2] := ⟨Try.call61, _, _, Try.func61, rfl, by kernel_rfl, by kernel_rfl, by kernel_rfl, by kernel_rfl⟩

theorem fs_vIndex (n : Int) (l : List (Int × Int)) (hl : l.length ≤ 400000000) : FS Try.prog 61 [VC n l] (VC (sn n l) (idxL (sl n l))) := by
  refine fs_of_cvc mixed cd_spvec_Index (by simp) ?_
  have c1 := fo_each n l hl 111 [] (fun x => (x.1, x.1)) rfl fun x _ => fs_idx1 x.1 x.2
  have e1 : (sl n l).map (fun x => (x.1, x.1)) = idxL (sl n l) := rfl
  rw [e1] at c1
  have hil := idxL_len (sl n l)
  repeat' (conv => whnf); first
    | ((refine Or.inr (Or.inl ⟨by rfl, _, _, c1, ?_⟩)))
    | ((refine Br.beq (by rfl) ?_))
    | ((refine Br.bne (by rfl) ?_))
    | ((refine And.intro (Or.inl (Nat.zero_le _)) ?_))
    | ((refine And.intro (show _ ≤ _ from Nat.le_of_ble_eq_true rfl) ?_))
    | ((refine And.intro (by intro y hy; simp at hy; subst hy; rfl) ?_))
    | (refine Br.tt ?_)
    | (refine Br.ff ?_)
    | (refine Br.dec (fun h => ?_) (fun h => ?_)) <;> try (exfalso; omega)
    | (refine Br.neg ?_)
    | (refine Br.mk (fun h => ?_) (fun h => ?_))
    | (refine And.intro rfl ?_)
    | (refine And.intro (by omega) ?_)
    | (refine ⟨_, Or.inl ⟨⟨by omega, by omega⟩, rfl⟩, ?_⟩)
    | (refine And.intro (by simp only [its_len]; first | done | omega) ?_)
    | (refine And.intro (Nat.le_refl _) ?_)
    | fail
  conv => whnf
  rw [← hil, frz_its]
  exact rfl

def ir_fretworkref09_Index : IR :=
(.seq (.reg (⟨(some 1), .bx (.t 0), none⟩ ::⟨(some 2), .al [.int .i64 0, .nils], none⟩ :: [])) (.seq (.reg (⟨(some 5), .ld 2 true (.t 1), none⟩ ::⟨(some 6), .call (.c (.fn 76 [])) [(.t 5)], none⟩ ::⟨none, .st 2 (.t 1) (.t 6), none⟩ :: [])) (.seq (.reg (⟨(some 7), .fa 0 (.t 1), none⟩ ::⟨(some 8), .ld 1 false (.t 7), none⟩ ::⟨(some 9), .bld [.int .i64 0, .nils] [(0, 1, (.t 8))], none⟩ ::⟨(some 3), .al [.int .i64 0, .nils], none⟩ ::⟨none, .st 2 (.t 3) (.t 9), none⟩ :: [])) (.seq (.seq (.reg (⟨(some 4), .mv (.c (.int .i64 0)), none⟩ :: [])) (.block 0 (.loop (.seq (.seq (.reg (⟨(some 10), .mv (.t 4), none⟩ ::⟨(some 11), .fa 1 (.t 1), none⟩ ::⟨(some 12), .ld 1 false (.t 11), none⟩ ::⟨(some 13), .ln (.t 12), none⟩ ::⟨(some 14), .bin .lss (.t 10) (.t 13), none⟩ :: [])) (.cond (.t 14) .skip (.exit 0))) (.seq (.block 1 (.draw (⟨(some 17), .fa 1 (.t 3), none⟩ ::⟨(some 18), .ld 1 false (.t 17), none⟩ ::⟨(some 19), .fa 1 (.t 1), none⟩ ::⟨(some 20), .ld 1 false (.t 19), none⟩ ::⟨(some 21), .mv (.t 4), none⟩ ::⟨(some 22), .ia 2 (.t 20) (.t 21), none⟩ ::⟨(some 23), .fa 0 (.t 22), none⟩ ::⟨(some 24), .ld 1 false (.t 23), none⟩ ::⟨(some 25), .fa 1 (.t 1), none⟩ ::⟨(some 26), .ld 1 false (.t 25), none⟩ ::⟨(some 27), .mv (.t 4), none⟩ ::⟨(some 28), .ia 2 (.t 26) (.t 27), none⟩ ::⟨(some 29), .fa 0 (.t 28), none⟩ ::⟨(some 30), .ld 1 false (.t 29), none⟩ ::⟨(some 31), .bld [.int .i64 0, .int .i64 0] [(0, 1, (.t 24)), (1, 1, (.t 30))], none⟩ ::⟨(some 32), .bsl 1 2 [.int .i64 0, .int .i64 0] [(0, (.t 31))], none⟩ :: []) (⟨(some 33), .ap 2 16 (.t 18) (.t 32), none⟩ ::⟨(some 34), .fa 1 (.t 3), none⟩ ::⟨none, .st 1 (.t 34) (.t 33), none⟩ :: []))) (.reg (⟨(some 15), .mv (.t 4), none⟩ ::⟨(some 16), .bin .add (.t 15) (.c (.int .i64 1)), none⟩ ::⟨(some 4), .mv (.t 16), none⟩ :: []))))))) (.seq (.reg (⟨(some 35), .ld 2 true (.t 3), none⟩ ::⟨none, .st 2 (.t 2) (.t 35), none⟩ :: [])) .ret)))))
theorem cd_fretworkref09_Index : Code1 Try.prog 62 36 ir_fretworkref09_Index [.c 2 true 2] := ⟨Try.call62, _, _, Try.func62, rfl, by kernel_rfl, by kernel_rfl, by kernel_rfl, by kernel_rfl⟩

theorem fs_r9Index (n : Int) (l : List (Int × Int)) (hl : l.length ≤ 400000000) : FS Try.prog 62 [VC n l] (VC (sn n l) (idxL (sl n l))) := by
  refine fs_of_cvc mixed cd_fretworkref09_Index (by simp) ?_
  have c1 := fs_r9Sure n l (by omega)
  have s1 := sl_len n l
  generalize sn n l = N1 at *
  generalize sl n l = a at *
  have hal := its_len a
  repeat' (conv => whnf); first
    | ((refine Or.inl ⟨by rfl, _, c1, ?_⟩))
    | ((refine Br.beq (by rfl) ?_))
    | ((refine Br.bne (by rfl) ?_))
    | ((refine And.intro (Or.inl (Nat.zero_le _)) ?_))
    | ((refine And.intro (show _ ≤ _ from Nat.le_of_ble_eq_true rfl) ?_))
    | ((refine And.intro (by intro y hy; simp at hy; subst hy; rfl) ?_))
    | (refine Br.tt ?_)
    | (refine Br.ff ?_)
    | (refine Br.dec (fun h => ?_) (fun h => ?_)) <;> try (exfalso; omega)
    | (refine Br.neg ?_)
    | (refine Br.mk (fun h => ?_) (fun h => ?_))
    | (refine And.intro rfl ?_)
    | (refine And.intro (by omega) ?_)
    | (refine ⟨_, Or.inl ⟨⟨by omega, by omega⟩, rfl⟩, ?_⟩)
    | (refine And.intro (by simp only [lens_all, its_len, vecs_len]; first | done | omega) ?_)
    | (refine And.intro (Nat.le_refl _) ?_)
    | fail
  refine ⟨Nat, fun j => j ≤ a.length, fun j => [(1, .ptr 0 0 0 0), (2, .ptr 1 0 0 0), (3, .ptr 2 0 0 0), (4, .int .i64 (j : Int))], fun j => [.vars [.int .i64 N1, IL a], .vars [.int .i64 0, .nils], .vars [.int .i64 N1, .osl 3 2 0 j], .arr 2 (its (idxL (a.take j)))], fun _ => none, fun j => a.length - j,
    ⟨0, Nat.zero_le _, ⟨rfl, rfl, rfl, rfl, trivial⟩, ⟨⟨rfl, rfl, trivial⟩, ⟨rfl, rfl, trivial⟩, ⟨rfl, ⟨Nat.le_refl _, rfl, rfl⟩, trivial⟩, rfl, trivial⟩, rfl⟩, fun j hj => ?_⟩
  have hj : j ≤ a.length := hj
  by_cases hja : j < a.length
  · obtain ⟨x, hx⟩ : ∃ x, a.getD j (0, 0) = x := ⟨_, rfl⟩
    have hst : idxL (a.take (j + 1)) = idxL (a.take j) ++ [(x.1, x.1)] := by
      unfold idxL
      rw [← hx, List.take_add_one, List.map_append]
      simp [hja]
    have hzl : (its (idxL (a.take j))).length = j := by rw [its_len, idxL_len]; simp; omega
    repeat' (conv => whnf); first
      | ((refine its_go' (i := j) (by omega) hx ?_))
      | ((refine Br.beq (by rfl) ?_))
      | ((refine Br.bne (by rfl) ?_))
      | ((refine And.intro (Or.inl (Nat.zero_le _)) ?_))
      | ((refine And.intro (show _ ≤ _ from Nat.le_of_ble_eq_true rfl) ?_))
      | ((refine And.intro (by intro y hy; simp at hy; subst hy; rfl) ?_))
      | (refine Br.tt ?_)
      | (refine Br.ff ?_)
      | (refine Br.dec (fun h => ?_) (fun h => ?_)) <;> try (exfalso; omega)
      | (refine Br.neg ?_)
      | (refine Br.mk (fun h => ?_) (fun h => ?_))
      | (refine And.intro rfl ?_)
      | (refine And.intro (by omega) ?_)
      | (refine ⟨_, Or.inl ⟨⟨by omega, by omega⟩, rfl⟩, ?_⟩)
      | (refine And.intro (by simp only [lens_all, its_len]; first | done | omega) ?_)
      | (refine And.intro (Nat.le_refl _) ?_)
      | fail
    refine ⟨j + 1, (show j + 1 ≤ a.length by omega), (show a.length - (j + 1) < a.length - j by omega), ⟨rfl, rfl, rfl, rfl, trivial⟩, ⟨⟨rfl, rfl, trivial⟩, ⟨rfl, rfl, trivial⟩, ⟨rfl, rfl, trivial⟩, ?_, trivial⟩, rfl⟩
    refine congrArg (Blk.arr 2) ?_
    rw [hst, its_append]; rfl
  · obtain rfl : j = a.length := by omega
    repeat' (conv => whnf); first
      | ((refine Br.beq (by rfl) ?_))
      | ((refine Br.bne (by rfl) ?_))
      | ((refine And.intro (Or.inl (Nat.zero_le _)) ?_))
      | ((refine And.intro (show _ ≤ _ from Nat.le_of_ble_eq_true rfl) ?_))
      | ((refine And.intro (by intro y hy; simp at hy; subst hy; rfl) ?_))
      | (refine Br.tt ?_)
      | (refine Br.ff ?_)
      | (refine Br.dec (fun h => ?_) (fun h => ?_)) <;> try (exfalso; omega)
      | (refine Br.neg ?_)
      | (refine Br.mk (fun h => ?_) (fun h => ?_))
      | (refine And.intro rfl ?_)
      | (refine And.intro (by omega) ?_)
      | (refine ⟨_, Or.inl ⟨⟨by omega, by omega⟩, rfl⟩, ?_⟩)
      | (refine And.intro (by simp only [its_len]; first | done | omega) ?_)
      | (refine And.intro (Nat.le_refl _) ?_)
      | fail
    conv => whnf
    have e1 : a.take a.length = a := List.take_length
    have hil := idxL_len a
    rw [e1]
    first
      | (rw [frz_len hil.symm]; rfl)
      | (refine ⟨by rw [its_len, hil]; omega, ?_⟩; conv => whnf; rw [frz_len hil.symm])
    all_goals exact rfl

def ir_fretworkref09_Fill : IR :=
(.seq (.reg (⟨(some 4), .al [.int .i64 0, .nils], none⟩ :: [])) (.seq (.seq (.reg (⟨(some 7), .mv (.t 0), none⟩ ::⟨(some 8), .bin .lss (.t 7) (.c (.int .i64 0)), none⟩ ::⟨(some 9), .mv (.t 8), none⟩ ::⟨(some 10), .mv (.t 0), some (9, false)⟩ ::⟨(some 11), .bin .gtr (.t 10) (.c (.int .i64 4096)), some (9, false)⟩ ::⟨(some 12), .pick (.t 9) (.c (.bool true)) (.t 11), none⟩ :: [])) (.cond (.t 12) (.seq (.reg (⟨(some 13), .bld [.int .i64 0, .nils] [], none⟩ ::⟨none, .st 2 (.t 4) (.t 13), none⟩ :: [])) .ret) .skip)) (.seq (.reg (⟨(some 14), .mv (.t 0), none⟩ ::⟨(some 15), .bld [.int .i64 0, .nils] [(0, 1, (.t 14))], none⟩ ::⟨(some 5), .al [.int .i64 0, .nils], none⟩ ::⟨none, .st 2 (.t 5) (.t 15), none⟩ :: [])) (.seq (.seq (.reg (⟨(some 6), .mv (.c (.int .i64 0)), none⟩ :: [])) (.block 0 (.loop (.seq (.seq (.reg (⟨(some 16), .mv (.t 6), none⟩ ::⟨(some 17), .mv (.t 0), none⟩ ::⟨(some 18), .bin .lss (.t 16) (.t 17), none⟩ :: [])) (.cond (.t 18) .skip (.exit 0))) (.seq (.block 1 (.reg (⟨(some 21), .fa 1 (.t 5), none⟩ ::⟨(some 22), .ld 1 false (.t 21), none⟩ ::⟨(some 23), .mv (.t 6), none⟩ ::⟨(some 24), .mv (.t 1), none⟩ ::⟨(some 25), .bld [.int .i64 0, .int .i64 0] [(0, 1, (.t 23)), (1, 1, (.t 24))], none⟩ ::⟨(some 26), .bsl 1 2 [.int .i64 0, .int .i64 0] [(0, (.t 25))], none⟩ ::⟨(some 27), .ap 2 16 (.t 22) (.t 26), none⟩ ::⟨(some 28), .fa 1 (.t 5), none⟩ ::⟨none, .st 1 (.t 28) (.t 27), none⟩ :: []))) (.reg (⟨(some 19), .mv (.t 6), none⟩ ::⟨(some 20), .bin .add (.t 19) (.c (.int .i64 1)), none⟩ ::⟨(some 6), .mv (.t 20), none⟩ :: []))))))) (.seq (.reg (⟨(some 29), .ld 2 true (.t 5), none⟩ ::⟨none, .st 2 (.t 4) (.t 29), none⟩ :: [])) .ret)))))
theorem cd_fretworkref09_Fill : Code1 Try.prog 52 30 ir_fretworkref09_Fill [.c 2 true 4] := ⟨Try.call52, _, _, Try.func52, rfl, by kernel_rfl, by kernel_rfl, by kernel_rfl, by kernel_rfl⟩

theorem fs_r9Fill (n v : Int) : FS Try.prog 52 [.int .i64 n, .int .i64 v] (if 0 ≤ n ∧ n ≤ 4096 then VC n (filL n.toNat v) else VC 0 []) := by
  refine fs_of_cvc mixed cd_fretworkref09_Fill (by simp) ?_
  by_cases h : 0 ≤ n ∧ n ≤ 4096
  · rw [if_pos h]
    obtain ⟨h0, h1⟩ := h
    repeat' (conv => whnf); first
      | ((refine Br.beq (by rfl) ?_))
      | ((refine Br.bne (by rfl) ?_))
      | ((refine And.intro (Or.inl (Nat.zero_le _)) ?_))
      | ((refine And.intro (show _ ≤ _ from Nat.le_of_ble_eq_true rfl) ?_))
      | ((refine And.intro (by intro y hy; simp at hy; subst hy; rfl) ?_))
      | (refine Br.tt ?_)
      | (refine Br.ff ?_)
      | (refine Br.dec (fun h => ?_) (fun h => ?_)) <;> try (exfalso; omega)
      | (refine Br.neg ?_)
      | (refine Br.mk (fun h => ?_) (fun h => ?_))
      | (refine And.intro rfl ?_)
      | (refine And.intro (by omega) ?_)
      | (refine ⟨_, Or.inl ⟨⟨by omega, by omega⟩, rfl⟩, ?_⟩)
      | (refine And.intro (by simp only [lens_all, its_len, vecs_len]; first | done | omega) ?_)
      | (refine And.intro (Nat.le_refl _) ?_)
      | fail
    refine ⟨Nat, fun k => (k : Int) ≤ n, fun k => [(0, .int .i64 n), (1, .int .i64 v), (4, .ptr 0 0 0 0), (5, .ptr 1 0 0 0), (6, .int .i64 (k : Int))], fun k => [.vars [.int .i64 0, .nils], .vars [.int .i64 n, .osl 2 2 0 k], .arr 2 (its (filL k v))], fun _ => none, fun k => n.toNat - k,
      ⟨0, h0, ⟨rfl, rfl, rfl, rfl, rfl, trivial⟩, ⟨⟨rfl, rfl, trivial⟩, ⟨rfl, ⟨Nat.le_refl _, rfl, rfl⟩, trivial⟩, rfl, trivial⟩, rfl⟩, fun k hk => ?_⟩
    have hk : (k : Int) ≤ n := hk
    have hfl := filL_len k v
    have hil := its_len (filL k v)
    repeat' (conv => whnf); first
      | ((refine Br.beq (by rfl) ?_))
      | ((refine Br.bne (by rfl) ?_))
      | ((refine And.intro (Or.inl (Nat.zero_le _)) ?_))
      | ((refine And.intro (show _ ≤ _ from Nat.le_of_ble_eq_true rfl) ?_))
      | ((refine And.intro (by intro y hy; simp at hy; subst hy; rfl) ?_))
      | (refine Br.tt ?_)
      | (refine Br.ff ?_)
      | (refine Br.dec (fun h => ?_) (fun h => ?_)) <;> try (exfalso; omega)
      | (refine Br.neg ?_)
      | (refine Br.mk (fun h => ?_) (fun h => ?_))
      | (refine And.intro rfl ?_)
      | (refine And.intro (by omega) ?_)
      | (refine ⟨_, Or.inl ⟨⟨by omega, by omega⟩, rfl⟩, ?_⟩)
      | (refine And.intro (by simp only [lens_all]; first | done | omega) ?_)
      | (refine And.intro (Nat.le_refl _) ?_)
      | fail
    · have hk2 : (k : Int) < n := h
      refine ⟨k + 1, (show ((k + 1 : Nat) : Int) ≤ n by omega), (show n.toNat - (k + 1) < n.toNat - k by omega), ⟨rfl, rfl, rfl, rfl, rfl, trivial⟩, ⟨⟨rfl, rfl, trivial⟩, ⟨rfl, rfl, trivial⟩, ?_, trivial⟩, rfl⟩
      rw [filL_succ, its_append]; rfl
    · obtain rfl : n.toNat = k := by omega
      conv => whnf
      rw [frz_len hfl.symm]
      rfl
  · rw [if_neg h]
    repeat' (conv => whnf); first
      | ((refine Br.beq (by rfl) ?_))
      | ((refine Br.bne (by rfl) ?_))
      | ((refine And.intro (Or.inl (Nat.zero_le _)) ?_))
      | ((refine And.intro (show _ ≤ _ from Nat.le_of_ble_eq_true rfl) ?_))
      | ((refine And.intro (by intro y hy; simp at hy; subst hy; rfl) ?_))
      | (refine Br.tt ?_)
      | (refine Br.ff ?_)
      | (refine Br.dec (fun h => ?_) (fun h => ?_)) <;> try (exfalso; omega)
      | (refine Br.neg ?_)
      | (refine Br.mk (fun h => ?_) (fun h => ?_))
      | (refine And.intro rfl ?_)
      | (refine And.intro (by omega) ?_)
      | (refine ⟨_, Or.inl ⟨⟨by omega, by omega⟩, rfl⟩, ?_⟩)
      | (refine And.intro (by simp only [lens_all, its_len, vecs_len]; first | done | omega) ?_)
      | (refine And.intro (Nat.le_refl _) ?_)
      | fail
    all_goals first | exact rfl | exact trivial | exact ⟨rfl, trivial⟩
end
section
open Go.RowKit
attribute [local irreducible] FS FO IT HS

theorem its_scal' {l : List (Int × Int)} {n : Nat} (_h : n = l.length) : ∀ y ∈ List.take n (List.drop 0 (its l)), scalarL y = true := fun y hy => its_scal l y (List.mem_of_mem_drop (List.mem_of_mem_take hy))

def ir_spvec_Glue : IR :=
(.seq (.reg (⟨(some 2), .al [.int .i64 0, .nils], none⟩ ::⟨(some 3), .mv (.c (.int .i64 0)), none⟩ :: [])) (.seq (.reg (⟨(some 4), .al [.int .i64 0, .nils], none⟩ :: [])) (.seq (.seq (.reg (⟨(some 8), .mv (.t 0), none⟩ ::⟨(some 9), .ln (.t 8), none⟩ ::⟨(some 10), .mv (.c (.int .i64 0)), none⟩ :: [])) (.block 0 (.loop (.seq (.reg (⟨(some 11), .bin .lss (.t 10) (.t 9), none⟩ :: [])) (.seq (.cond (.t 11) .skip (.exit 0)) (.seq (.block 1 (.seq (.reg (⟨(some 12), .ia 2 (.t 8) (.t 10), none⟩ ::⟨(some 13), .ld 2 true (.t 12), none⟩ ::⟨(some 6), .al [.int .i64 0, .nils], none⟩ ::⟨none, .st 2 (.t 6) (.t 13), none⟩ :: [])) (.seq (.reg (⟨(some 14), .fa 0 (.t 4), none⟩ ::⟨(some 15), .ld 1 false (.t 14), none⟩ ::⟨(some 7), .al [.int .i64 0], none⟩ ::⟨none, .st 1 (.t 7) (.t 15), none⟩ :: [])) (.seq (.reg (⟨(some 16), .ld 2 true (.t 6), none⟩ ::⟨(some 17), .fn 93 [(.t 7)], none⟩ ::⟨(some 18), .call (.c (.fn 91 [])) [(.t 16), (.t 17)], none⟩ ::⟨none, .st 2 (.t 6) (.t 18), none⟩ :: [])) (.seq (.seq (.reg (⟨(some 19), .fa 0 (.t 6), none⟩ ::⟨(some 20), .ld 1 false (.t 19), none⟩ ::⟨(some 21), .fa 0 (.t 4), none⟩ ::⟨(some 22), .ld 1 false (.t 21), none⟩ ::⟨(some 23), .bin .sub (.c (.int .i64 4096)) (.t 22), none⟩ ::⟨(some 24), .bin .gtr (.t 20) (.t 23), none⟩ :: [])) (.cond (.t 24) (.seq (.reg (⟨(some 25), .bld [.int .i64 0, .nils] [], none⟩ ::⟨none, .st 2 (.t 2) (.t 25), none⟩ ::⟨(some 3), .mv (.c (.int .i64 5)), none⟩ :: [])) .ret) .skip)) (.drawL (⟨(some 26), .fa 0 (.t 4), none⟩ ::⟨(some 27), .ld 1 false (.t 26), none⟩ ::⟨(some 28), .fa 0 (.t 6), none⟩ ::⟨(some 29), .ld 1 false (.t 28), none⟩ ::⟨(some 30), .bin .add (.t 27) (.t 29), none⟩ ::⟨(some 31), .fa 1 (.t 4), none⟩ ::⟨(some 32), .ld 1 false (.t 31), none⟩ ::⟨(some 33), .fa 1 (.t 6), none⟩ ::⟨(some 34), .ld 1 false (.t 33), none⟩ :: []) (⟨(some 26), .fa 0 (.t 4), none⟩ ::⟨(some 27), .ld 1 false (.t 26), none⟩ ::⟨(some 28), .fa 0 (.t 6), none⟩ ::⟨(some 29), .ld 1 false (.t 28), none⟩ ::⟨(some 30), .bin .add (.t 27) (.t 29), none⟩ :: []) (⟨(some 35), .ap 2 16 (.t 32) (.t 34), none⟩ :: []) (⟨(some 36), .bld [.int .i64 0, .nils] [(0, 1, (.t 30)), (1, 1, (.t 35))], none⟩ ::⟨none, .st 2 (.t 4) (.t 36), none⟩ :: []))))))) (.reg (⟨(some 37), .bin .add (.t 10) (.c (.int .i64 1)), none⟩ ::⟨(some 10), .mv (.t 37), none⟩ :: [])))))))) (.seq (.reg (⟨(some 38), .ld 2 true (.t 4), none⟩ ::⟨none, .st 2 (.t 2) (.t 38), none⟩ ::⟨(some 3), .mv (.c (.int .i64 0)), none⟩ :: [])) .ret))))
theorem cd_spvec_Glue : Code1 Try.prog 43 39 ir_spvec_Glue [.c 2 true 2, .t 3] := ⟨Try.call43, _, _, Try.func43, rfl, by kernel_rfl, by kernel_rfl, by kernel_rfl, by kernel_rfl⟩

set_option maxHeartbeats 8000000 in
theorem fs_vGlue (vs : List Vc) (hl : vs.length ≤ 1000000000) (hv : ∀ v ∈ vs, v.2.length ≤ 400000000) : FS Try.prog 43 [VL vs] (VE (glR vs)) := by
  refine fs_of_cvc mixed cd_spvec_Glue (by simp) ?_
  have hvl := vecs_len vs
  repeat' (conv => whnf); first
    | ((refine Br.beq (by rfl) ?_))
    | ((refine Br.bne (by rfl) ?_))
    | ((refine And.intro (Or.inl (Nat.zero_le _)) ?_))
    | ((refine And.intro (show _ ≤ _ from Nat.le_of_ble_eq_true rfl) ?_))
    | ((refine And.intro (its_scal' (by omega)) ?_))
    | (refine Br.tt ?_)
    | (refine Br.ff ?_)
    | (refine Br.dec (fun h => ?_) (fun h => ?_)) <;> try (exfalso; omega)
    | (refine Br.neg ?_)
    | (refine Br.mk (fun h => ?_) (fun h => ?_))
    | (refine And.intro rfl ?_)
    | (refine And.intro (by omega) ?_)
    | (refine ⟨_, Or.inl ⟨⟨by omega, by omega⟩, rfl⟩, ?_⟩)
    | (refine And.intro (by simp only [lens_all, its_len, vecs_len, mvI_len]; first | done | omega) ?_)
    | (refine And.intro (Nat.le_refl _) ?_)
    | fail
  refine ⟨Nat, fun k => k ≤ vs.length ∧ (glK vs k).1 ≤ 4096, fun k => [(2, .ptr 0 0 0 0), (4, .ptr 1 0 0 0), (8, VL vs), (9, .int .i64 (vs.length : Int)), (10, .int .i64 (k : Int))], fun k => [.vars [.int .i64 0, .nils], .vars [.int .i64 (glK vs k).1, .osl 2 2 0 (glK vs k).2.length], .arr 2 (its (glK vs k).2)], fun _ => none, fun k => vs.length - k,
    ⟨0, ⟨Nat.zero_le _, by show (0 : Int) ≤ 4096; omega⟩, ⟨rfl, rfl, rfl, ?_, rfl, trivial⟩, ⟨⟨rfl, rfl, trivial⟩, ⟨rfl, ⟨Nat.le_refl _, rfl, rfl⟩, trivial⟩, rfl, trivial⟩, rfl⟩, fun k hk => ?_⟩
  · exact congrArg (SV.int .i64) (congrArg Int.ofNat hvl)
  obtain ⟨hk1, hk2⟩ := hk
  have hok := okV_glK vs k hk2
  have hol := hok.le
  have hn0 := hok.n0
  have hil := its_len (glK vs k).2
  by_cases hkl : k < vs.length
  · obtain ⟨v, hx⟩ : ∃ v, vs.getD k (0, []) = v := ⟨_, rfl⟩
    have hvm : v ∈ vs := by rw [← hx]; simp [hkl]
    have hst := glK_more hkl
    rw [hx] at hst
    have hvo := okV v.1 v.2
    have hvle := hvo.le
    have hv0 := hvo.n0
    have hv1 := hvo.n1
    have hfin := glK_mono vs (k + 1) (vs.length - (k + 1))
    rw [show k + 1 + (vs.length - (k + 1)) = vs.length by omega] at hfin
    have hs1 : (glK vs (k + 1)).1 = (glK vs k).1 + sn v.1 v.2 := by rw [hst]; rfl
    have hs2 : (glK vs (k + 1)).2 = (glK vs k).2 ++ mvI (glK vs k).1 (sl v.1 v.2) := by rw [hst]; rfl
    have c1 := fo_each v.1 v.2 (by have := hv v hvm; omega) 93 [.box [.int .i64 (glK vs k).1] 0] (fun x => ((glK vs k).1 + x.1, x.2)) rfl fun x hx => by
      have h1 := hvo.lo x hx
      exact fs_glue1 _ x (by unfold I64; omega)
    have e1 : (sl v.1 v.2).map (fun x => ((glK vs k).1 + x.1, x.2)) = mvI (glK vs k).1 (sl v.1 v.2) := rfl
    rw [e1] at c1
    have hml := mvI_len (glK vs k).1 (sl v.1 v.2)
    have hal := its_len (mvI (glK vs k).1 (sl v.1 v.2))
    by_cases hbig : (glK vs k).1 + sn v.1 v.2 ≤ 4096
    · repeat' (conv => whnf); first
        | ((refine vecs_go (i := k) (by omega) hx ?_))
        | ((refine Or.inr (Or.inr (Or.inr (Or.inr (Or.inl ?_)))); (conv => whnf); refine ⟨_, _, c1, rfl, its_loose1 _, ?_⟩))
        | ((refine Br.beq (by rfl) ?_))
        | ((refine Br.bne (by rfl) ?_))
        | ((refine And.intro (Or.inl (Nat.zero_le _)) ?_))
        | ((refine And.intro (show _ ≤ _ from Nat.le_of_ble_eq_true rfl) ?_))
        | ((refine And.intro (its_scal' (by omega)) ?_))
        | (refine Br.tt ?_)
        | (refine Br.ff ?_)
        | (refine Br.dec (fun h => ?_) (fun h => ?_)) <;> try (exfalso; omega)
        | (refine Br.neg ?_)
        | (refine Br.mk (fun h => ?_) (fun h => ?_))
        | (refine And.intro rfl ?_)
        | (refine And.intro (by omega) ?_)
        | (refine ⟨_, Or.inl ⟨⟨by omega, by omega⟩, rfl⟩, ?_⟩)
        | (refine And.intro (by simp only [lens_all, its_len, vecs_len, mvI_len]; first | done | omega) ?_)
        | (refine And.intro (Nat.le_refl _) ?_)
        | fail
      conv => whnf
      refine ⟨[.dead, .vars [.int .i64 (glK vs k).1, .any], .dead, .vars [.int .i64 (sn v.1 v.2), .any], .dead, .dead], [2], fun _ _ => Or.inl (Nat.zero_le _), ?_, ?_, ?_⟩
      · repeat' (first | exact trivial | exact rfl | (refine And.intro ?_ ?_))
      · repeat' (first | exact trivial | exact rfl | (refine And.intro ?_ ?_) | omega | exact Nat.le_of_ble_eq_true rfl | ((conv => whnf); first | exact trivial | exact rfl | (refine And.intro ?_ ?_) | (refine ⟨_, Or.inl ⟨⟨by omega, by omega⟩, rfl⟩, ?_⟩)))
      · repeat' (conv => whnf); first
          | ((refine And.intro (Or.inr (List.mem_singleton.2 rfl)) ?_))
          | ((refine ex_but 9 ?_; refine And.intro ?_ ?_; focus ((repeat' (first | exact trivial | exact rfl | (refine And.intro ?_ ?_) | omega | exact Nat.le_of_ble_eq_true rfl | ((conv => whnf); first | exact trivial | exact rfl | (refine And.intro ?_ ?_)))); done)))
          | ((exact rfl))
          | ((exact trivial))
          | ((refine And.intro ?_ ?_; focus ((repeat' (first | exact trivial | exact rfl | (refine And.intro ?_ ?_) | omega | exact Nat.le_of_ble_eq_true rfl | ((conv => whnf); first | exact trivial | exact rfl | (refine And.intro ?_ ?_)))); done)))
          | ((refine Br.beq (by rfl) ?_))
          | ((refine Br.bne (by rfl) ?_))
          | ((refine And.intro (Or.inl (Nat.zero_le _)) ?_))
          | ((refine And.intro (show _ ≤ _ from Nat.le_of_ble_eq_true rfl) ?_))
          | ((refine And.intro (its_scal' (by omega)) ?_))
          | (refine Br.tt ?_)
          | (refine Br.ff ?_)
          | (refine Br.dec (fun h => ?_) (fun h => ?_)) <;> try (exfalso; omega)
          | (refine Br.neg ?_)
          | (refine Br.mk (fun h => ?_) (fun h => ?_))
          | (refine And.intro rfl ?_)
          | (refine And.intro (by omega) ?_)
          | (refine ⟨_, Or.inl ⟨⟨by omega, by omega⟩, rfl⟩, ?_⟩)
          | (refine And.intro (by simp only [lens_all, its_len, mvI_len]; first | done | omega) ?_)
          | (refine And.intro (Nat.le_refl _) ?_)
          | fail
        have htk : List.take (sl v.1 v.2).length (List.drop 0 (its (mvI (glK vs k).1 (sl v.1 v.2)))) = its (mvI (glK vs k).1 (sl v.1 v.2)) := by rw [← hml, frz_its]
        refine ⟨k + 1, ⟨by omega, by rw [hs1]; exact hbig⟩, (show vs.length - (k + 1) < vs.length - k by omega), ⟨rfl, rfl, rfl, rfl, rfl, trivial⟩, ⟨⟨rfl, rfl, trivial⟩, ⟨?_, ?_, trivial⟩, ?_, ⟨Nat.le_of_ble_eq_true rfl, rfl, rfl⟩⟩, rfl⟩
        · rw [hs1]; exact rfl
        · rw [hs2]; exact congrArg (SV.osl 2 2 0) (by rw [htk, hal, hml, List.length_append, hml])
        · rw [hs2, its_append]; exact congrArg (fun x => Blk.arr 2 (its (glK vs k).2 ++ x)) htk
    · repeat' (conv => whnf); first
        | ((refine vecs_go (i := k) (by omega) hx ?_))
        | ((refine Or.inr (Or.inr (Or.inr (Or.inr (Or.inl ?_)))); (conv => whnf); refine ⟨_, _, c1, rfl, its_loose1 _, ?_⟩))
        | ((refine Br.beq (by rfl) ?_))
        | ((refine Br.bne (by rfl) ?_))
        | ((refine And.intro (Or.inl (Nat.zero_le _)) ?_))
        | ((refine And.intro (show _ ≤ _ from Nat.le_of_ble_eq_true rfl) ?_))
        | ((refine And.intro (its_scal' (by omega)) ?_))
        | (refine Br.tt ?_)
        | (refine Br.ff ?_)
        | (refine Br.dec (fun h => ?_) (fun h => ?_)) <;> try (exfalso; omega)
        | (refine Br.neg ?_)
        | (refine Br.mk (fun h => ?_) (fun h => ?_))
        | (refine And.intro rfl ?_)
        | (refine And.intro (by omega) ?_)
        | (refine ⟨_, Or.inl ⟨⟨by omega, by omega⟩, rfl⟩, ?_⟩)
        | (refine And.intro (by simp only [lens_all, its_len, vecs_len, mvI_len]; first | done | omega) ?_)
        | (refine And.intro (Nat.le_refl _) ?_)
        | fail
      unfold glR
      rw [if_neg (by omega)]
      exact ⟨⟨rfl, rfl, trivial⟩, rfl, trivial⟩
  · obtain rfl : k = vs.length := by omega
    unfold glR
    rw [if_pos hk2]
    repeat' (conv => whnf); first
      | ((refine Br.beq (by rfl) ?_))
      | ((refine Br.bne (by rfl) ?_))
      | ((refine And.intro (Or.inl (Nat.zero_le _)) ?_))
      | ((refine And.intro (show _ ≤ _ from Nat.le_of_ble_eq_true rfl) ?_))
      | ((refine And.intro (its_scal' (by omega)) ?_))
      | (refine Br.tt ?_)
      | (refine Br.ff ?_)
      | (refine Br.dec (fun h => ?_) (fun h => ?_)) <;> try (exfalso; omega)
      | (refine Br.neg ?_)
      | (refine Br.mk (fun h => ?_) (fun h => ?_))
      | (refine And.intro rfl ?_)
      | (refine And.intro (by omega) ?_)
      | (refine ⟨_, Or.inl ⟨⟨by omega, by omega⟩, rfl⟩, ?_⟩)
      | (refine And.intro (by simp only [lens_all, its_len, vecs_len, mvI_len]; first | done | omega) ?_)
      | (refine And.intro (Nat.le_refl _) ?_)
      | fail
    conv => whnf
    rw [frz_its]
    rfl
end
section
open Go.RowKit
attribute [local irreducible] FS FO IT HS

/-- One item more, in a list by place. -/
def smV (r : Int) (A : List (Int × Int)) (x : Int × Int) : Int := match gt A x.1 with
  | some s => rAdd r s x.2
  | none => x.2
def smI (r : Int) (A : List (Int × Int)) (x : Int × Int) : List (Int × Int) := putI x.1 (smV r A x) A
def sm (r : Int) (l : List (Int × Int)) (i : Nat) : List (Int × Int) := (l.take i).foldl (smI r) []
theorem sm_more {r : Int} {l : List (Int × Int)} {i : Nat} {x : Int × Int} (h : l[i]? = some x) : sm r l (i + 1) = smI r (sm r l i) x := by
  unfold sm
  rw [List.take_add_one, h, List.foldl_append]; rfl
theorem sm_up (r : Int) : ∀ (l : List (Int × Int)) (A : List (Int × Int)), Up A → Up (l.foldl (smI r) A)
  | [], _, h => h
  | _x :: l, _A, h => sm_up r l _ (up_putI h)
theorem up_sm (r : Int) (l : List (Int × Int)) (i : Nat) : Up (sm r l i) := sm_up r _ [] .nil
theorem gt_smI {r : Int} {A : List (Int × Int)} (h : Up A) (x : Int × Int) (k : Int) : gt (smI r A x) k = if k = x.1 then some (smV r A x) else gt A k := gt_putI h k
theorem smV_w {r : Int} {A : List (Int × Int)} (hA : ∀ y ∈ A, W128 y.2) {x : Int × Int} (hx : I64 x.2) : W128 (smV r A x) := by
  unfold smV
  cases h : gt A x.1 with
  | none => exact W64i hx
  | some s => exact rAdd_w (hA _ (gt_mem h)) (W64i hx)

/-- The document's two lists, as one. -/
def zp (E : List (Int × Int × Int)) (S : List Int) : List (Int × Int) := (E.map fun e => e.2.1).zip S
theorem cpos_cons (e : Int × Int × Int) (E : List (Int × Int × Int)) (x : Int × Int × Int) : cpos (e :: E) x = if bel e x = true then cpos E x + 1 else 0 := by
  unfold cpos
  rw [List.takeWhile_cons]
  split <;> simp [*]
theorem zp_step (r : Int) (x : Int × Int) : ∀ (E : List (Int × Int × Int)) (S : List Int), E.length = S.length → (∀ e ∈ E, e.1 = 0) → Up (zp E S) →
    zp (cStep r (E, S) (toE x)).1 (cStep r (E, S) (toE x)).2 = smI r (zp E S) x ∧ ∀ e ∈ (cStep r (E, S) (toE x)).1, e.1 = 0
  | [], [], _, _, _ => ⟨rfl, fun e he => by
    have : e ∈ [((0 : Int), x.1, (0 : Int))] := he
    rw [List.mem_singleton.1 this]⟩
  | e :: E, s :: S, hl, h0, hu => by
    have he0 := h0 e List.mem_cons_self
    have hl' : E.length = S.length := by simpa using hl
    have h0' : ∀ e ∈ E, e.1 = 0 := fun y hy => h0 y (List.mem_cons_of_mem _ hy)
    have hz : zp (e :: E) (s :: S) = (e.2.1, s) :: zp E S := rfl
    rw [hz] at hu
    have hb : bel e (toE x) = decide (e.2.1 < x.1) := by
      unfold bel toE
      simp [he0]
    have hb' : bel (toE x) e = decide (x.1 < e.2.1) := by
      unfold bel toE
      simp [he0]
    by_cases h1 : e.2.1 < x.1
    · obtain ⟨ih1, ih2⟩ := zp_step r x E S hl' h0' hu.tail
      have hc : cpos (e :: E) (toE x) = cpos E (toE x) + 1 := by rw [cpos_cons, hb, if_pos (by simpa using h1)]
      have hs : cStep r (e :: E, s :: S) (toE x) = (e :: (cStep r (E, S) (toE x)).1, s :: (cStep r (E, S) (toE x)).2) := by
        unfold cStep
        simp only [hc, List.length_cons, Nat.add_lt_add_iff_right, List.getD_cons_succ]
        split <;> rfl
      rw [hs]
      refine ⟨?_, fun y hy => ?_⟩
      · show (e.2.1, s) :: zp (cStep r (E, S) (toE x)).1 (cStep r (E, S) (toE x)).2 = smI r ((e.2.1, s) :: zp E S) x
        rw [ih1]
        have hv : smV r ((e.2.1, s) :: zp E S) x = smV r (zp E S) x := by
          unfold smV
          rw [gt_cons, if_neg (show e.2.1 ≠ x.1 by omega)]
        unfold smI
        rw [hv]
        refine up_ext ?_ (up_putI hu) fun k => ?_
        · refine List.pairwise_cons.2 ⟨fun y hy => ?_, up_putI hu.tail⟩
          have hg := gt_some (up_putI (p := x.1) (v := smV r (zp E S) x) hu.tail) hy
          rw [gt_putI hu.tail] at hg
          split at hg
          · omega
          · exact hu.head _ (gt_mem hg)
        · rw [gt_cons, gt_putI hu.tail, gt_putI hu, gt_cons]
          by_cases hk : e.2.1 = k
          · rw [if_pos hk, if_neg (by omega), if_pos hk]
          · rw [if_neg hk, if_neg hk]
      · rcases List.mem_cons.1 hy with rfl | hy
        · exact he0
        · exact ih2 y hy
    · have hc : cpos (e :: E) (toE x) = 0 := by rw [cpos_cons, hb, if_neg (by simpa using h1)]
      by_cases h2 : x.1 < e.2.1
      · have hs : cStep r (e :: E, s :: S) (toE x) = ((0, x.1, 0) :: e :: E, x.2 :: s :: S) := by
          unfold cStep
          simp only [hc, List.getD_cons_zero]
          rw [if_neg (by rw [hb']; simp; omega)]
          rfl
        rw [hs]
        refine ⟨?_, fun y hy => ?_⟩
        · show (x.1, x.2) :: (e.2.1, s) :: zp E S = smI r ((e.2.1, s) :: zp E S) x
          have hn : gt ((e.2.1, s) :: zp E S) x.1 = none := gt_lt fun y hy => by
            rcases List.mem_cons.1 hy with rfl | hy
            · exact h2
            · have := hu.head y hy
              simp only at this; omega
          unfold smI smV
          rw [hn]
          refine up_ext (List.pairwise_cons.2 ⟨fun y hy => ?_, hu⟩) (up_putI hu) fun k => ?_
          · rcases List.mem_cons.1 hy with rfl | hy
            · exact h2
            · have := hu.head y hy
              simp only at this ⊢; omega
          · rw [gt_cons, gt_putI hu]
            by_cases hk : x.1 = k
            · rw [if_pos hk, if_pos hk.symm]
            · rw [if_neg hk, if_neg (fun h => hk h.symm)]
        · rcases List.mem_cons.1 hy with rfl | hy
          · rfl
          · exact h0 y hy
      · have hxe : e.2.1 = x.1 := by omega
        have hs : cStep r (e :: E, s :: S) (toE x) = (e :: E, rAdd r s x.2 :: S) := by
          unfold cStep
          simp only [hc, List.getD_cons_zero]
          rw [if_pos ⟨by simp, by rw [hb']; simp; omega⟩]
          rfl
        rw [hs]
        refine ⟨?_, h0⟩
        show (e.2.1, rAdd r s x.2) :: zp E S = smI r ((e.2.1, s) :: zp E S) x
        have hg : gt ((e.2.1, s) :: zp E S) x.1 = some s := by rw [gt_cons, if_pos hxe]
        unfold smI smV
        rw [hg]
        refine up_ext (List.pairwise_cons.2 ⟨fun y hy => hu.head y hy, hu.tail⟩) (up_putI hu) fun k => ?_
        rw [gt_cons, gt_putI hu, gt_cons]
        simp only
        by_cases hk : e.2.1 = k
        · rw [if_pos hk, if_pos (by omega)]
        · rw [if_neg hk, if_neg (by omega), if_neg hk]
theorem zp_cmb (r : Int) : ∀ (l : List (Int × Int)) (E : List (Int × Int × Int)) (S : List Int), E.length = S.length → (∀ e ∈ E, e.1 = 0) → Up (zp E S) →
    zp ((l.map toE).foldl (cStep r) (E, S)).1 ((l.map toE).foldl (cStep r) (E, S)).2 = l.foldl (smI r) (zp E S)
  | [], _, _, _, _, _ => rfl
  | x :: l, E, S, hl, h0, hu => by
    obtain ⟨h1, h2⟩ := zp_step r x E S hl h0 hu
    have h3 := (cStep_len r hl (toE x)).1
    have ih := zp_cmb r l (cStep r (E, S) (toE x)).1 (cStep r (E, S) (toE x)).2 h3 h2 (by rw [h1]; exact up_putI hu)
    rw [h1] at ih
    exact ih

/-- Sums by place, as a vector. -/
def smE (_r n : Int) (A : List (Int × Int)) : Int × List (Int × Int) × Int := if A.all (fun x => fits x.2) = true then (n, A.map (fun x => (x.1, nar x.2)), 0) else (0, [], 12)
theorem ofR_sm (r n : Int) (l : List (Int × Int)) (hr : isR r = true) (hn : 0 ≤ n ∧ n ≤ 4096) (hi : l.all (inN n) = true) : ofR r n l = smE r n (sm r l l.length) := by
  have hz := zp_cmb r l [] [] rfl (fun e h => by cases h) .nil
  have hlen := (cmb_len r (l.map toE) [] [] rfl).1
  unfold ofR cmbR
  rw [if_pos hr, if_pos hn, if_pos hi, if_pos hr]
  have e1 : sm r l l.length = zp (cmb r (l.map toE)).1 (cmb r (l.map toE)).2 := by
    unfold sm cmb
    rw [List.take_length, hz]; rfl
  rw [e1]
  have hlen' : (cmb r (l.map toE)).1.length = (cmb r (l.map toE)).2.length := hlen
  generalize cmb r (l.map toE) = c at *
  obtain ⟨E, S⟩ := c
  simp only at hlen' ⊢
  have e2 : (zp E S).all (fun x => fits x.2) = S.all fits := by
    rw [Bool.eq_iff_iff, List.all_eq_true, List.all_eq_true]
    unfold zp
    constructor
    · intro h s hs
      obtain ⟨i, hi, rfl⟩ := List.getElem_of_mem hs
      have hiE : i < E.length := by omega
      refine h ((E[i]).2.1, S[i]) ?_
      rw [List.mem_iff_getElem]
      exact ⟨i, by simp; omega, by simp⟩
    · intro h x hx
      exact h _ (List.of_mem_zip hx).2
  unfold smE
  rw [e2]
  by_cases hf : S.all fits = true
  · rw [if_pos hf, if_pos hf, if_pos rfl]
    refine Prod.ext rfl (Prod.ext ?_ rfl)
    show (nrE E S E.length).map toI = (zp E S).map fun x => (x.1, nar x.2)
    apply List.ext_getElem?
    intro i
    unfold nrE zp toI
    by_cases hi : i < E.length
    · have hiS : i < S.length := by omega
      have hz : ((E.map fun e => e.2.1).zip S)[i]? = some ((E[i]).2.1, S[i]) := by
        rw [List.getElem?_eq_getElem (by simp; omega)]; simp
      simp only [List.getElem?_map, hz]
      simp [hi, hiS]
    · have hz : ((E.map fun e => e.2.1).zip S)[i]? = none := List.getElem?_eq_none (by simp; omega)
      simp only [List.getElem?_map, hz]
      simp [hi]
  · rw [if_neg hf, if_neg hf, if_neg (by simp)]
end
end Go.Proofs.Ytahpfomabgfmkaa
