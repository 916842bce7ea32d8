/- Dense vectors: Right of both, sure, own, Get, Count. Dense vectors: of items; parts; the document's functions. Dense vectors: the document's functions. Dense vectors: the document's functions, the others. The laws on dense vectors. -/
import Derived.Test.YtahpfomabgfmkaaKL
namespace Go.Proofs.Ytahpfomabgfmkaa
section
open Go.RowKit
attribute [local irreducible] FS FO IT HS

def ir_fretworkref10_Right : IR :=
(.seq (.reg (⟨(some 1), .bx (.t 0), none⟩ ::⟨(some 2), .mv (.c (.bool false)), none⟩ :: [])) (.seq (.seq (.reg (⟨(some 4), .fa 0 (.t 1), none⟩ ::⟨(some 5), .ld 1 false (.t 4), none⟩ ::⟨(some 6), .bin .lss (.t 5) (.c (.int .i64 0)), none⟩ ::⟨(some 7), .mv (.t 6), none⟩ ::⟨(some 8), .fa 0 (.t 1), some (7, false)⟩ ::⟨(some 9), .ld 1 false (.t 8), some (7, false)⟩ ::⟨(some 10), .bin .gtr (.t 9) (.c (.int .i64 4096)), some (7, false)⟩ ::⟨(some 11), .pick (.t 7) (.c (.bool true)) (.t 10), none⟩ ::⟨(some 12), .mv (.t 11), none⟩ ::⟨(some 13), .fa 1 (.t 1), some (12, false)⟩ ::⟨(some 14), .ld 1 false (.t 13), some (12, false)⟩ ::⟨(some 15), .fa 0 (.t 1), some (12, false)⟩ ::⟨(some 16), .ld 1 false (.t 15), some (12, false)⟩ ::⟨(some 17), .call (.c (.fn 67 [])) [(.t 14), (.t 16)], some (12, false)⟩ ::⟨(some 18), .un .not (.t 17), some (12, false)⟩ ::⟨(some 19), .pick (.t 12) (.c (.bool true)) (.t 18), none⟩ ::⟨(some 20), .mv (.t 19), none⟩ ::⟨(some 21), .fa 2 (.t 1), some (20, false)⟩ ::⟨(some 22), .ld 1 false (.t 21), some (20, false)⟩ ::⟨(some 23), .ln (.t 22), some (20, false)⟩ ::⟨(some 24), .fa 0 (.t 1), some (20, false)⟩ ::⟨(some 25), .ld 1 false (.t 24), some (20, false)⟩ ::⟨(some 26), .bin .neq (.t 23) (.t 25), some (20, false)⟩ ::⟨(some 27), .pick (.t 20) (.c (.bool true)) (.t 26), none⟩ :: [])) (.cond (.t 27) (.seq (.reg (⟨(some 2), .mv (.c (.bool false)), none⟩ :: [])) .ret) .skip)) (.seq (.seq (.reg (⟨(some 3), .mv (.c (.int .i64 0)), none⟩ :: [])) (.block 0 (.loop (.seq (.seq (.reg (⟨(some 28), .mv (.t 3), none⟩ ::⟨(some 29), .fa 0 (.t 1), none⟩ ::⟨(some 30), .ld 1 false (.t 29), none⟩ ::⟨(some 31), .bin .lss (.t 28) (.t 30), none⟩ :: [])) (.cond (.t 31) .skip (.exit 0))) (.seq (.block 1 (.seq (.reg (⟨(some 34), .fa 1 (.t 1), none⟩ ::⟨(some 35), .ld 1 false (.t 34), none⟩ ::⟨(some 36), .mv (.t 3), none⟩ ::⟨(some 37), .call (.c (.fn 68 [])) [(.t 35), (.t 36)], none⟩ ::⟨(some 38), .un .not (.t 37), none⟩ ::⟨(some 39), .mv (.t 38), none⟩ ::⟨(some 40), .fa 2 (.t 1), some (39, true)⟩ ::⟨(some 41), .ld 1 false (.t 40), some (39, true)⟩ ::⟨(some 42), .mv (.t 3), some (39, true)⟩ ::⟨(some 43), .ia 1 (.t 41) (.t 42), some (39, true)⟩ ::⟨(some 44), .ld 1 false (.t 43), some (39, true)⟩ ::⟨(some 45), .bin .neq (.t 44) (.c (.int .i64 0)), some (39, true)⟩ ::⟨(some 46), .pick (.t 39) (.t 45) (.c (.bool false)), none⟩ :: [])) (.cond (.t 46) (.seq (.reg (⟨(some 2), .mv (.c (.bool false)), none⟩ :: [])) .ret) .skip))) (.reg (⟨(some 32), .mv (.t 3), none⟩ ::⟨(some 33), .bin .add (.t 32) (.c (.int .i64 1)), none⟩ ::⟨(some 3), .mv (.t 33), none⟩ :: []))))))) (.seq (.reg (⟨(some 2), .mv (.c (.bool true)), none⟩ :: [])) .ret))))
theorem cd_fretworkref10_Right : Code1 Try.prog 18 47 ir_fretworkref10_Right [.t 2] := ⟨Try.call18, _, _, Try.func18, rfl, by kernel_rfl, by kernel_rfl, by kernel_rfl, by kernel_rfl⟩

set_option maxHeartbeats 4000000 in
theorem fs_r10Right (n : Int) (f : List Nat) (v : List Int) (hn : I64 n) (hw : Wd f) (hf : f.length ≤ 1000000) (_hv : v.length ≤ 1000000) : FS Try.prog 18 [DV n f v] (.bool (dR n f v)) := by
  refine fs_of_cvc mixed cd_fretworkref10_Right (by simp) ?_
  have c2 := fs_rRight f hw hf n hn.1 hn.2
  have hvl := zs_len v
  obtain ⟨t, ht⟩ : ∃ t, dR n f v = t := ⟨_, rfl⟩
  rw [ht]
  unfold dR at ht
  cases hr : rightB f n with
  | false =>
    rw [hr] at c2 ht
    rw [Bool.false_and] at ht
    subst ht
    repeat' (conv => whnf); first
      | ((refine Or.inl ⟨by rfl, _, c2, ?_⟩))
      | ((refine Br.beq (by rfl) ?_))
      | ((refine Br.bne (by rfl) ?_))
      | ((refine And.intro (Or.inl (Nat.zero_le _)) ?_))
      | (refine Br.tt ?_)
      | (refine Br.ff ?_)
      | (refine Br.dec (fun h => ?_) (fun h => ?_)) <;> try (exfalso; omega)
      | (refine Br.neg ?_)
      | (refine Br.mk (fun h => ?_) (fun h => ?_))
      | (refine And.intro rfl ?_)
      | (refine And.intro (by omega) ?_)
      | (refine ⟨_, Or.inl ⟨⟨by omega, by omega⟩, rfl⟩, ?_⟩)
      | (refine And.intro (by simp only [lens_all, U_len, zs_len]; first | done | omega) ?_)
      | (refine And.intro (Nat.le_refl _) ?_)
      | fail
    all_goals exact rfl
  | true =>
    have hr2 := hr
    unfold rightB at hr2
    simp only [Bool.and_eq_true, decide_eq_true_eq] at hr2
    obtain ⟨hr3, hr4, _⟩ := hr2
    rw [hr] at c2 ht
    rw [Bool.true_and] at ht
    by_cases hl : (v.length : Int) = n
    · rw [decide_eq_true hl, Bool.true_and] at ht
      repeat' (conv => whnf); first
        | ((refine Or.inl ⟨by rfl, _, c2, ?_⟩))
        | ((refine Br.beq (by rfl) ?_))
        | ((refine Br.bne (by rfl) ?_))
        | ((refine And.intro (Or.inl (Nat.zero_le _)) ?_))
        | (refine Br.tt ?_)
        | (refine Br.ff ?_)
        | (refine Br.dec (fun h => ?_) (fun h => ?_)) <;> try (exfalso; omega)
        | (refine Br.neg ?_)
        | (refine Br.mk (fun h => ?_) (fun h => ?_))
        | (refine And.intro rfl ?_)
        | (refine And.intro (by omega) ?_)
        | (refine ⟨_, Or.inl ⟨⟨by omega, by omega⟩, rfl⟩, ?_⟩)
        | (refine And.intro (by simp only [lens_all, U_len, zs_len]; first | done | omega) ?_)
        | (refine And.intro (Nat.le_refl _) ?_)
        | fail
      refine ⟨Nat, fun k => k ≤ v.length ∧ ((List.range k).all fun (i : Nat) => hasI f (i : Int) || v.getD i 0 == 0) = true, fun k => [(1, .ptr 0 0 0 0), (3, .int .i64 (k : Int))], fun k => [.vars [.int .i64 n, U f, Z v]], fun _ => none, fun k => v.length - k,
        ⟨0, ⟨Nat.zero_le _, rfl⟩, ⟨rfl, rfl, trivial⟩, ⟨⟨rfl, rfl, rfl, trivial⟩, trivial⟩, rfl⟩, fun k hk => ?_⟩
      obtain ⟨hk1, hk2⟩ := hk
      by_cases hkv : k < v.length
      · obtain ⟨p, hp⟩ : ∃ p, v.getD k 0 = p := ⟨_, rfl⟩
        have hm := all_more hk2
        rw [hp, Bool.true_and] at hm
        have c3 := fs_rHas f hw hf (k : Int) (by omega)
        cases hh : hasI f (k : Int) with
        | true =>
          rw [hh] at c3 hm
          repeat' (conv => whnf); first
            | ((refine zs_go (i := k) (by omega) hp ?_))
            | ((refine Or.inl ⟨by rfl, _, c3, ?_⟩))
            | ((refine Br.beq (by rfl) ?_))
            | ((refine Br.bne (by rfl) ?_))
            | ((refine And.intro (Or.inl (Nat.zero_le _)) ?_))
            | (refine Br.tt ?_)
            | (refine Br.ff ?_)
            | (refine Br.dec (fun h => ?_) (fun h => ?_)) <;> try (exfalso; omega)
            | (refine Br.neg ?_)
            | (refine Br.mk (fun h => ?_) (fun h => ?_))
            | (refine And.intro rfl ?_)
            | (refine And.intro (by omega) ?_)
            | (refine ⟨_, Or.inl ⟨⟨by omega, by omega⟩, rfl⟩, ?_⟩)
            | (refine And.intro (by simp only [lens_all, U_len, zs_len]; first | done | omega) ?_)
            | (refine And.intro (Nat.le_refl _) ?_)
            | fail
          all_goals exact ⟨k + 1, ⟨by omega, by rw [hm]; rfl⟩, (show v.length - (k + 1) < v.length - k by omega), ⟨rfl, rfl, trivial⟩, ⟨⟨rfl, rfl, rfl, trivial⟩, trivial⟩, rfl⟩
        | false =>
          rw [hh, Bool.false_or] at hm
          rw [hh] at c3
          by_cases hp0 : p = 0
          · subst hp0
            repeat' (conv => whnf); first
              | ((refine zs_go (i := k) (by omega) hp ?_))
              | ((refine Or.inl ⟨by rfl, _, c3, ?_⟩))
              | ((refine Br.beq (by rfl) ?_))
              | ((refine Br.bne (by rfl) ?_))
              | ((refine And.intro (Or.inl (Nat.zero_le _)) ?_))
              | (refine Br.tt ?_)
              | (refine Br.ff ?_)
              | (refine Br.dec (fun h => ?_) (fun h => ?_)) <;> try (exfalso; omega)
              | (refine Br.neg ?_)
              | (refine Br.mk (fun h => ?_) (fun h => ?_))
              | (refine And.intro rfl ?_)
              | (refine And.intro (by omega) ?_)
              | (refine ⟨_, Or.inl ⟨⟨by omega, by omega⟩, rfl⟩, ?_⟩)
              | (refine And.intro (by simp only [lens_all, U_len, zs_len]; first | done | omega) ?_)
              | (refine And.intro (Nat.le_refl _) ?_)
              | fail
            all_goals exact ⟨k + 1, ⟨by omega, by rw [hm]; rfl⟩, (show v.length - (k + 1) < v.length - k by omega), ⟨rfl, rfl, trivial⟩, ⟨⟨rfl, rfl, rfl, trivial⟩, trivial⟩, rfl⟩
          · have hb : (p == 0) = false := by simpa using hp0
            rw [hb] at hm
            rw [all_less (by omega) hm] at ht
            subst ht
            repeat' (conv => whnf); first
              | ((refine zs_go (i := k) (by omega) hp ?_))
              | ((refine Or.inl ⟨by rfl, _, c3, ?_⟩))
              | ((refine Br.beq (by rfl) ?_))
              | ((refine Br.bne (by rfl) ?_))
              | ((refine And.intro (Or.inl (Nat.zero_le _)) ?_))
              | (refine Br.tt ?_)
              | (refine Br.ff ?_)
              | (refine Br.dec (fun h => ?_) (fun h => ?_)) <;> try (exfalso; omega)
              | (refine Br.neg ?_)
              | (refine Br.mk (fun h => ?_) (fun h => ?_))
              | (refine And.intro rfl ?_)
              | (refine And.intro (by omega) ?_)
              | (refine ⟨_, Or.inl ⟨⟨by omega, by omega⟩, rfl⟩, ?_⟩)
              | (refine And.intro (by simp only [lens_all, U_len, zs_len]; first | done | omega) ?_)
              | (refine And.intro (Nat.le_refl _) ?_)
              | fail
            all_goals exact rfl
      · obtain rfl : k = v.length := by omega
        rw [hk2] at ht
        subst ht
        repeat' (conv => whnf); first
          | ((refine Br.beq (by rfl) ?_))
          | ((refine Br.bne (by rfl) ?_))
          | ((refine And.intro (Or.inl (Nat.zero_le _)) ?_))
          | (refine Br.tt ?_)
          | (refine Br.ff ?_)
          | (refine Br.dec (fun h => ?_) (fun h => ?_)) <;> try (exfalso; omega)
          | (refine Br.neg ?_)
          | (refine Br.mk (fun h => ?_) (fun h => ?_))
          | (refine And.intro rfl ?_)
          | (refine And.intro (by omega) ?_)
          | (refine ⟨_, Or.inl ⟨⟨by omega, by omega⟩, rfl⟩, ?_⟩)
          | (refine And.intro (by simp only [lens_all, U_len, zs_len]; first | done | omega) ?_)
          | (refine And.intro (Nat.le_refl _) ?_)
          | fail
        exact rfl
    · rw [decide_eq_false hl, Bool.false_and] at ht
      subst ht
      repeat' (conv => whnf); first
        | ((refine Or.inl ⟨by rfl, _, c2, ?_⟩))
        | ((refine Br.beq (by rfl) ?_))
        | ((refine Br.bne (by rfl) ?_))
        | ((refine And.intro (Or.inl (Nat.zero_le _)) ?_))
        | (refine Br.tt ?_)
        | (refine Br.ff ?_)
        | (refine Br.dec (fun h => ?_) (fun h => ?_)) <;> try (exfalso; omega)
        | (refine Br.neg ?_)
        | (refine Br.mk (fun h => ?_) (fun h => ?_))
        | (refine And.intro rfl ?_)
        | (refine And.intro (by omega) ?_)
        | (refine ⟨_, Or.inl ⟨⟨by omega, by omega⟩, rfl⟩, ?_⟩)
        | (refine And.intro (by simp only [lens_all, U_len, zs_len]; first | done | omega) ?_)
        | (refine And.intro (Nat.le_refl _) ?_)
        | fail
      exact rfl
end
section
open Go.RowKit
attribute [local irreducible] FS FO IT HS

def ir_fretworkref09_Part : IR :=
(.seq (.reg (⟨(some 3), .bx (.t 0), none⟩ ::⟨(some 6), .al [.int .i64 0, .nils], none⟩ :: [])) (.seq (.reg (⟨(some 9), .ld 2 true (.t 3), none⟩ ::⟨(some 10), .call (.c (.fn 76 [])) [(.t 9)], none⟩ ::⟨none, .st 2 (.t 3) (.t 10), none⟩ :: [])) (.seq (.draw (⟨(some 11), .mv (.t 1), none⟩ ::⟨(some 12), .mm true [(.t 11), (.c (.int .i64 0))], none⟩ ::⟨(some 13), .mv (.t 2), none⟩ ::⟨(some 14), .fa 0 (.t 3), none⟩ ::⟨(some 15), .ld 1 false (.t 14), none⟩ ::⟨(some 16), .mm false [(.t 13), (.t 15)], none⟩ ::⟨(some 1), .mv (.t 12), none⟩ :: []) (⟨(some 2), .mv (.t 16), none⟩ :: [])) (.seq (.seq (.reg (⟨(some 17), .mv (.t 2), none⟩ ::⟨(some 18), .mv (.t 1), none⟩ ::⟨(some 19), .bin .leq (.t 17) (.t 18), none⟩ :: [])) (.cond (.t 19) (.seq (.reg (⟨(some 20), .bld [.int .i64 0, .nils] [], none⟩ ::⟨none, .st 2 (.t 6) (.t 20), none⟩ :: [])) .ret) .skip)) (.seq (.reg (⟨(some 21), .mv (.t 2), none⟩ ::⟨(some 22), .mv (.t 1), none⟩ ::⟨(some 23), .bin .sub (.t 21) (.t 22), none⟩ ::⟨(some 24), .bld [.int .i64 0, .nils] [(0, 1, (.t 23))], none⟩ ::⟨(some 7), .al [.int .i64 0, .nils], none⟩ ::⟨none, .st 2 (.t 7) (.t 24), none⟩ :: [])) (.seq (.seq (.reg (⟨(some 8), .mv (.c (.int .i64 0)), none⟩ :: [])) (.block 0 (.loop (.seq (.seq (.reg (⟨(some 25), .mv (.t 8), none⟩ ::⟨(some 26), .fa 1 (.t 3), none⟩ ::⟨(some 27), .ld 1 false (.t 26), none⟩ ::⟨(some 28), .ln (.t 27), none⟩ ::⟨(some 29), .bin .lss (.t 25) (.t 28), none⟩ :: [])) (.cond (.t 29) .skip (.exit 0))) (.seq (.block 1 (.seq (.reg (⟨(some 32), .fa 1 (.t 3), none⟩ ::⟨(some 33), .ld 1 false (.t 32), none⟩ ::⟨(some 34), .mv (.t 8), none⟩ ::⟨(some 35), .ia 2 (.t 33) (.t 34), none⟩ ::⟨(some 36), .fa 0 (.t 35), none⟩ ::⟨(some 37), .ld 1 false (.t 36), none⟩ ::⟨(some 38), .mv (.t 1), none⟩ ::⟨(some 39), .bin .geq (.t 37) (.t 38), none⟩ ::⟨(some 40), .mv (.t 39), none⟩ ::⟨(some 41), .fa 1 (.t 3), some (40, true)⟩ ::⟨(some 42), .ld 1 false (.t 41), some (40, true)⟩ ::⟨(some 43), .mv (.t 8), some (40, true)⟩ ::⟨(some 44), .ia 2 (.t 42) (.t 43), some (40, true)⟩ ::⟨(some 45), .fa 0 (.t 44), some (40, true)⟩ ::⟨(some 46), .ld 1 false (.t 45), some (40, true)⟩ ::⟨(some 47), .mv (.t 2), some (40, true)⟩ ::⟨(some 48), .bin .lss (.t 46) (.t 47), some (40, true)⟩ ::⟨(some 49), .pick (.t 40) (.t 48) (.c (.bool false)), none⟩ :: [])) (.cond (.t 49) (.draw (⟨(some 50), .fa 1 (.t 7), none⟩ ::⟨(some 51), .ld 1 false (.t 50), none⟩ ::⟨(some 52), .fa 1 (.t 3), none⟩ ::⟨(some 53), .ld 1 false (.t 52), none⟩ ::⟨(some 54), .mv (.t 8), none⟩ ::⟨(some 55), .ia 2 (.t 53) (.t 54), none⟩ ::⟨(some 56), .fa 0 (.t 55), none⟩ ::⟨(some 57), .ld 1 false (.t 56), none⟩ ::⟨(some 58), .mv (.t 1), none⟩ ::⟨(some 59), .bin .sub (.t 57) (.t 58), none⟩ ::⟨(some 60), .fa 1 (.t 3), none⟩ ::⟨(some 61), .ld 1 false (.t 60), none⟩ ::⟨(some 62), .mv (.t 8), none⟩ ::⟨(some 63), .ia 2 (.t 61) (.t 62), none⟩ ::⟨(some 64), .fa 1 (.t 63), none⟩ ::⟨(some 65), .ld 1 false (.t 64), none⟩ ::⟨(some 66), .bld [.int .i64 0, .int .i64 0] [(0, 1, (.t 59)), (1, 1, (.t 65))], none⟩ ::⟨(some 67), .bsl 1 2 [.int .i64 0, .int .i64 0] [(0, (.t 66))], none⟩ :: []) (⟨(some 68), .ap 2 16 (.t 51) (.t 67), none⟩ ::⟨(some 69), .fa 1 (.t 7), none⟩ ::⟨none, .st 1 (.t 69) (.t 68), none⟩ :: [])) .skip))) (.reg (⟨(some 30), .mv (.t 8), none⟩ ::⟨(some 31), .bin .add (.t 30) (.c (.int .i64 1)), none⟩ ::⟨(some 8), .mv (.t 31), none⟩ :: []))))))) (.seq (.reg (⟨(some 70), .ld 2 true (.t 7), none⟩ ::⟨none, .st 2 (.t 6) (.t 70), none⟩ :: [])) .ret)))))))
theorem cd_fretworkref09_Part : Code1 Try.prog 63 71 ir_fretworkref09_Part [.c 2 true 6] := ⟨Try.call63, _, _, Try.func63, rfl, by kernel_rfl, by kernel_rfl, by kernel_rfl, by kernel_rfl⟩

set_option maxHeartbeats 4000000 in
theorem fs_r9Part (n : Int) (l : List (Int × Int)) (p q : Int) (hl : l.length ≤ 400000000) (_hp : I64 p) (_hq : I64 q) : FS Try.prog 63 [VC n l, .int .i64 p, .int .i64 q] (VC (ptR (sn n l) (sl n l) p q).1 (ptR (sn n l) (sl n l) p q).2) := by
  refine fs_of_cvc mixed cd_fretworkref09_Part (by simp) ?_
  have c1 := fs_r9Sure n l (by omega)
  have hok := okV n l
  generalize sn n l = N at *
  generalize sl n l = A at *
  have hal := its_len A
  have hale := hok.le
  have hn0 := hok.n0
  have hn1 := hok.n1
  obtain ⟨t, ht⟩ : ∃ t, ptR N A p q = t := ⟨_, rfl⟩
  rw [ht]
  unfold ptR at ht
  by_cases h : min q N ≤ max p 0
  · rw [if_pos h] at ht
    subst ht
    repeat' (conv => whnf); first
      | ((refine Or.inl ⟨by rfl, _, c1, ?_⟩))
      | ((refine Br.beq (by rfl) ?_))
      | ((refine Br.bne (by rfl) ?_))
      | ((refine And.intro (Or.inl (Nat.zero_le _)) ?_))
      | ((refine And.intro (show _ ≤ _ from Nat.le_of_ble_eq_true rfl) ?_))
      | ((refine And.intro (by intro y hy; simp at hy; subst hy; rfl) ?_))
      | (refine Br.tt ?_)
      | (refine Br.ff ?_)
      | (refine Br.dec (fun h => ?_) (fun h => ?_)) <;> try (exfalso; omega)
      | (refine Br.neg ?_)
      | (refine Br.mk (fun h => ?_) (fun h => ?_))
      | (refine And.intro rfl ?_)
      | (refine And.intro (by omega) ?_)
      | (refine ⟨_, Or.inl ⟨⟨by omega, by omega⟩, rfl⟩, ?_⟩)
      | (refine And.intro (by simp only [lens_all, U_len, zs_len, its_len, mvI_len]; first | done | omega) ?_)
      | (refine And.intro (Nat.le_refl _) ?_)
      | fail
    first | exact rfl | exact trivial | exact ⟨rfl, trivial⟩
  · rw [if_neg h] at ht
    subst ht
    repeat' (conv => whnf); first
      | ((refine Or.inl ⟨by rfl, _, c1, ?_⟩))
      | ((refine Br.beq (by rfl) ?_))
      | ((refine Br.bne (by rfl) ?_))
      | ((refine And.intro (Or.inl (Nat.zero_le _)) ?_))
      | ((refine And.intro (show _ ≤ _ from Nat.le_of_ble_eq_true rfl) ?_))
      | ((refine And.intro (by intro y hy; simp at hy; subst hy; rfl) ?_))
      | (refine Br.tt ?_)
      | (refine Br.ff ?_)
      | (refine Br.dec (fun h => ?_) (fun h => ?_)) <;> try (exfalso; omega)
      | (refine Br.neg ?_)
      | (refine Br.mk (fun h => ?_) (fun h => ?_))
      | (refine And.intro rfl ?_)
      | (refine And.intro (by omega) ?_)
      | (refine ⟨_, Or.inl ⟨⟨by omega, by omega⟩, rfl⟩, ?_⟩)
      | (refine And.intro (by simp only [lens_all, U_len, zs_len, its_len, mvI_len]; first | done | omega) ?_)
      | (refine And.intro (Nat.le_refl _) ?_)
      | fail
    refine ⟨Nat, fun j => j ≤ A.length, fun j => [(1, .int .i64 (max p 0)), (2, .int .i64 (min q N)), (3, .ptr 0 0 0 0), (6, .ptr 1 0 0 0), (7, .ptr 2 0 0 0), (8, .int .i64 (j : Int))], fun j => [.vars [.int .i64 N, IL A], .vars [.int .i64 0, .nils], .vars [.int .i64 (min q N - max p 0), .osl 3 2 0 (ptI (max p 0) (min q N) (A.take j)).length], .arr 2 (its (ptI (max p 0) (min q N) (A.take j)))], fun _ => none, fun j => A.length - j,
      ⟨0, Nat.zero_le _, ⟨rfl, rfl, rfl, rfl, rfl, rfl, trivial⟩, ⟨⟨rfl, rfl, trivial⟩, ⟨rfl, rfl, trivial⟩, ⟨rfl, ⟨Nat.le_refl _, rfl, rfl⟩, trivial⟩, rfl, trivial⟩, rfl⟩, fun j hj => ?_⟩
    have hj : j ≤ A.length := hj
    have hpl : (ptI (max p 0) (min q N) (A.take j)).length ≤ j := by
      unfold ptI
      rw [List.length_map]
      exact Nat.le_trans (List.length_filter_le _ _) (by simp; omega)
    by_cases hja : j < A.length
    · obtain ⟨x, hx⟩ : ∃ x, A.getD j (0, 0) = x := ⟨_, rfl⟩
      have hxj : A[j]? = some x := by rw [← hx]; simp [hja]
      have hxb := hok.lo x (List.mem_of_getElem? hxj)
      have hst : ptI (max p 0) (min q N) (A.take (j + 1)) = ptI (max p 0) (min q N) (A.take j) ++ if max p 0 ≤ x.1 ∧ x.1 < min q N then [(x.1 - max p 0, x.2)] else [] := by
        unfold ptI
        rw [vtk_more hxj, List.filter_append, List.map_append]
        congr 1
        by_cases h : max p 0 ≤ x.1 ∧ x.1 < min q N
        · rw [if_pos h, List.filter_cons, if_pos (by rw [decide_eq_true h.1, decide_eq_true h.2]; rfl)]; rfl
        · rw [if_neg h, List.filter_cons, if_neg (by simpa using h)]; rfl
      repeat' (conv => whnf); first
        | ((refine its_go' (i := j) (by omega) hx ?_))
        | ((refine Br.beq (by rfl) ?_))
        | ((refine Br.bne (by rfl) ?_))
        | ((refine And.intro (Or.inl (Nat.zero_le _)) ?_))
        | ((refine And.intro (show _ ≤ _ from Nat.le_of_ble_eq_true rfl) ?_))
        | ((refine And.intro (by intro y hy; simp at hy; subst hy; rfl) ?_))
        | (refine Br.tt ?_)
        | (refine Br.ff ?_)
        | (refine Br.dec (fun h => ?_) (fun h => ?_)) <;> try (exfalso; omega)
        | (refine Br.neg ?_)
        | (refine Br.mk (fun h => ?_) (fun h => ?_))
        | (refine And.intro rfl ?_)
        | (refine And.intro (by omega) ?_)
        | (refine ⟨_, Or.inl ⟨⟨by omega, by omega⟩, rfl⟩, ?_⟩)
        | (refine And.intro (by simp only [lens_all, its_len]; first | done | omega) ?_)
        | (refine And.intro (Nat.le_refl _) ?_)
        | fail
      · rw [if_pos ⟨by omega, by omega⟩] at hst
        refine ⟨j + 1, (show j + 1 ≤ A.length by omega), (show A.length - (j + 1) < A.length - j by omega), ⟨rfl, rfl, rfl, rfl, rfl, rfl, trivial⟩, ⟨⟨rfl, rfl, trivial⟩, ⟨rfl, rfl, trivial⟩, ⟨rfl, ?_, trivial⟩, ?_, trivial⟩, rfl⟩
        · rw [hst]; exact congrArg (SV.osl 3 2 0) (by simp)
        · rw [hst, its_append]; rfl
      all_goals
        rw [if_neg (by omega), List.append_nil] at hst
        refine ⟨j + 1, (show j + 1 ≤ A.length by omega), (show A.length - (j + 1) < A.length - j by omega), ⟨rfl, rfl, rfl, rfl, rfl, rfl, trivial⟩, ⟨⟨rfl, rfl, trivial⟩, ⟨rfl, rfl, trivial⟩, ⟨rfl, ?_, trivial⟩, ?_, trivial⟩, rfl⟩
        · rw [hst]; exact rfl
        · rw [hst]; exact rfl
    · obtain rfl : j = A.length := by omega
      have e1 : A.take A.length = A := List.take_length
      repeat' (conv => whnf); first
        | ((refine Br.beq (by rfl) ?_))
        | ((refine Br.bne (by rfl) ?_))
        | ((refine And.intro (Or.inl (Nat.zero_le _)) ?_))
        | ((refine And.intro (show _ ≤ _ from Nat.le_of_ble_eq_true rfl) ?_))
        | ((refine And.intro (by intro y hy; simp at hy; subst hy; rfl) ?_))
        | (refine Br.tt ?_)
        | (refine Br.ff ?_)
        | (refine Br.dec (fun h => ?_) (fun h => ?_)) <;> try (exfalso; omega)
        | (refine Br.neg ?_)
        | (refine Br.mk (fun h => ?_) (fun h => ?_))
        | (refine And.intro rfl ?_)
        | (refine And.intro (by omega) ?_)
        | (refine ⟨_, Or.inl ⟨⟨by omega, by omega⟩, rfl⟩, ?_⟩)
        | (refine And.intro (by simp only [its_len]; first | done | omega) ?_)
        | (refine And.intro (Nat.le_refl _) ?_)
        | fail
      conv => whnf
      rw [frz_its, e1]
      rfl
end
section
open Go.RowKit
attribute [local irreducible] FS FO IT HS

def ir_fretworkref10_New : IR :=
(.seq (.reg (⟨(some 2), .al [.int .i64 0, .nils, .nils], none⟩ :: [])) (.seq (.seq (.reg (⟨(some 3), .mv (.t 0), none⟩ ::⟨(some 4), .bin .lss (.t 3) (.c (.int .i64 0)), none⟩ ::⟨(some 5), .mv (.t 4), none⟩ ::⟨(some 6), .mv (.t 0), some (5, false)⟩ ::⟨(some 7), .bin .gtr (.t 6) (.c (.int .i64 4096)), some (5, false)⟩ ::⟨(some 8), .pick (.t 5) (.c (.bool true)) (.t 7), none⟩ :: [])) (.cond (.t 8) (.reg (⟨(some 0), .mv (.c (.int .i64 0)), none⟩ :: [])) .skip)) (.seq (.draw (⟨(some 9), .mv (.t 0), none⟩ ::⟨(some 10), .mv (.t 0), none⟩ ::⟨(some 11), .call (.c (.fn 79 [])) [(.t 10)], none⟩ ::⟨(some 12), .mv (.t 0), none⟩ ::⟨(some 13), .mk 1 8 [.int .i64 0] (.t 12) (.t 12), none⟩ :: []) (⟨(some 14), .bld [.int .i64 0, .nils, .nils] [(0, 1, (.t 9)), (1, 1, (.t 11)), (2, 1, (.t 13))], none⟩ ::⟨none, .st 3 (.t 2) (.t 14), none⟩ :: [])) .ret)))
theorem cd_fretworkref10_New : Code1 Try.prog 26 15 ir_fretworkref10_New [.c 3 true 2] := ⟨Try.call26, _, _, Try.func26, rfl, by kernel_rfl, by kernel_rfl, by kernel_rfl, by kernel_rfl⟩

theorem fo_r10New (n : Int) : FO Try.prog 26 [.int .i64 n] (.agg [.int .i64 (clipN n), .osl 0 1 0 (wordsI (clipN n)), .osl 1 1 0 (clipN n).toNat]) [.arr 1 (uw (List.replicate (wordsI (clipN n)) 0)), .arr 1 (zs (List.replicate (clipN n).toNat 0))] := by
  refine fo_of_cvc mixed cd_fretworkref10_New (by simp) ?_
  have hb := clipN_bd n
  have c := fo_rNew (clipN n) (by omega) (by omega)
  have fin : ∀ H : List Blk, H[1]? = some (.arr 1 (uw (List.replicate (wordsI (clipN n)) 0))) → H[2]? = some (.arr 1 (List.replicate (clipN n).toNat [.int .i64 0])) → FoP H (.agg [.int .i64 (clipN n), .osl 1 1 0 (wordsI (clipN n)), .osl 2 1 0 (clipN n).toNat]) (.agg [.int .i64 (clipN n), .osl 0 1 0 (wordsI (clipN n)), .osl 1 1 0 (clipN n).toNat]) [.arr 1 (uw (List.replicate (wordsI (clipN n)) 0)), .arr 1 (zs (List.replicate (clipN n).toNat 0))] := fun H h1 h2 =>
    Or.inr (Or.inr (FoS.two 1 2 (by omega) (MatL.agg (.cons (.same _ rfl) (.cons (.osl 0 1 1 0 _ rfl) (.cons (.osl 1 2 1 0 _ rfl) .nil)))) h1 (by rw [h2, zs_rep]) rfl rfl))
  by_cases h : n < 0 ∨ 4096 < n
  · have e : clipN n = 0 := if_pos h
    rw [e] at c fin ⊢
    repeat' (conv => whnf); first
      | ((refine Or.inr (Or.inl ⟨by rfl, _, _, c, ?_⟩)))
      | ((refine Br.beq (by rfl) ?_))
      | ((refine Br.bne (by rfl) ?_))
      | ((refine And.intro (Or.inl (Nat.zero_le _)) ?_))
      | ((refine And.intro (show _ ≤ _ from Nat.le_of_ble_eq_true rfl) ?_))
      | ((refine And.intro (by intro y hy; simp at hy; subst hy; rfl) ?_))
      | (refine Br.tt ?_)
      | (refine Br.ff ?_)
      | (refine Br.dec (fun h => ?_) (fun h => ?_)) <;> try (exfalso; omega)
      | (refine Br.neg ?_)
      | (refine Br.mk (fun h => ?_) (fun h => ?_))
      | (refine And.intro rfl ?_)
      | (refine And.intro (by omega) ?_)
      | (refine ⟨_, Or.inl ⟨⟨by omega, by omega⟩, rfl⟩, ?_⟩)
      | (refine And.intro (by simp only [lens_all, U_len, zs_len, its_len, ints_len]; first | done | omega) ?_)
      | (refine And.intro (Nat.le_refl _) ?_)
      | fail
    all_goals exact fin _ rfl rfl
  · have e : clipN n = n := if_neg h
    rw [e] at c fin ⊢
    repeat' (conv => whnf); first
      | ((refine Or.inr (Or.inl ⟨by rfl, _, _, c, ?_⟩)))
      | ((refine Br.beq (by rfl) ?_))
      | ((refine Br.bne (by rfl) ?_))
      | ((refine And.intro (Or.inl (Nat.zero_le _)) ?_))
      | ((refine And.intro (show _ ≤ _ from Nat.le_of_ble_eq_true rfl) ?_))
      | ((refine And.intro (by intro y hy; simp at hy; subst hy; rfl) ?_))
      | (refine Br.tt ?_)
      | (refine Br.ff ?_)
      | (refine Br.dec (fun h => ?_) (fun h => ?_)) <;> try (exfalso; omega)
      | (refine Br.neg ?_)
      | (refine Br.mk (fun h => ?_) (fun h => ?_))
      | (refine And.intro rfl ?_)
      | (refine And.intro (by omega) ?_)
      | (refine ⟨_, Or.inl ⟨⟨by omega, by omega⟩, rfl⟩, ?_⟩)
      | (refine And.intro (by simp only [lens_all, U_len, zs_len, its_len, ints_len]; first | done | omega) ?_)
      | (refine And.intro (Nat.le_refl _) ?_)
      | fail
    all_goals exact fin _ rfl rfl
/-- ref03.Of, where the places lie in one's own block. -/
theorem hs_rOf10 (n : Int) (h0 : 0 ≤ n) (h1 : n ≤ 4096) (l : List Int) (hl : l.length ≤ 1000000000) (hlb : ∀ x ∈ l, -9223372036854775808 ≤ x ∧ x ≤ 9223372036854775807) (A : List (Int × Int)) (ws : List Nat) (v : List Int) (a b m : Nat) (hm : m = l.length) :
    HS Try.prog 77 [.int .i64 n, .osl 5 1 0 m] [.vars [.int .i64 n, IL A], .vars [.int .i64 0, .nils, .nils], .arr 1 (uw ws), .arr 1 (zs v), .vars [.int .i64 n, .osl 2 1 0 a, .osl 3 1 0 b], .arr 1 (zs l)] (U (ofN n l)) [.vars [.int .i64 n, IL A], .vars [.int .i64 0, .nils, .nils], .arr 1 (uw ws), .arr 1 (zs v), .vars [.int .i64 n, .osl 2 1 0 a, .osl 3 1 0 b], .arr 1 (zs l)] [] := by
  subst hm
  rw [ofN_eq]
  generalize hp : (fun i => if 0 ≤ i ∧ i < n ∧ i < 4096 then some i else none) = p
  refine hs_of_cvc mixed cd_fretworkref03_Of (by simp) ?_
  have hwl : wordsI n ≤ 64 := by unfold wordsI; omega
  have hzl := zs_len l
  repeat' (conv => whnf); first
    | ((refine Or.inl ⟨rfl, _, fs_rNew n (by omega) (by omega), ?_⟩))
    | ((refine Br.beq (by rfl) ?_))
    | ((refine Br.bne (by rfl) ?_))
    | ((refine And.intro (Or.inl (Nat.zero_le _)) ?_))
    | ((refine And.intro (show _ ≤ _ from Nat.le_of_ble_eq_true rfl) ?_))
    | ((refine And.intro (by intro y hy; simp at hy; subst hy; rfl) ?_))
    | (refine Br.tt ?_)
    | (refine Br.ff ?_)
    | (refine Br.dec (fun h => ?_) (fun h => ?_)) <;> try (exfalso; omega)
    | (refine Br.neg ?_)
    | (refine Br.mk (fun h => ?_) (fun h => ?_))
    | (refine And.intro rfl ?_)
    | (refine And.intro (by omega) ?_)
    | (refine ⟨_, Or.inl ⟨⟨by omega, by omega⟩, rfl⟩, ?_⟩)
    | (refine And.intro (by simp only [lens_all, U_len, zs_len, its_len, ints_len]; first | done | omega) ?_)
    | (refine And.intro (Nat.le_refl _) ?_)
    | fail
  refine ⟨Nat, fun k => k ≤ l.length, fun k => [(0, .int .i64 n), (1, .osl 5 1 0 l.length), (5, U (puts p (zeroW n) (l.take k))), (6, .int .i64 (k : Int))], fun k => [.vars [.int .i64 n, IL A], .vars [.int .i64 0, .nils, .nils], .arr 1 (uw ws), .arr 1 (zs v), .vars [.int .i64 n, .osl 2 1 0 a, .osl 3 1 0 b], .arr 1 (zs l)], fun _ => none, fun k => l.length - k, ⟨0, Nat.zero_le _, ⟨rfl, rfl, rfl, rfl, trivial⟩, ⟨⟨rfl, rfl, trivial⟩, ⟨rfl, rfl, rfl, trivial⟩, rfl, rfl, ⟨rfl, rfl, rfl, trivial⟩, rfl, trivial⟩, rfl⟩, fun k hk => ?_⟩
  have hk' : k ≤ l.length := hk
  have hwd : Wd (puts p (zeroW n) (l.take k)) := puts_wd _ _ _ (wd_zero _)
  have hlen : (puts p (zeroW n) (l.take k)).length = wordsI n := by rw [puts_len, zeroW_len]
  have next : k < l.length → puts p (zeroW n) (l.take (k + 1)) = match p (l.getD k 0) with | some j => put1 (puts p (zeroW n) (l.take k)) j | none => puts p (zeroW n) (l.take k) := fun h => puts_take p _ (getD_get 0 h)
  by_cases hkl : k < l.length
  · have next := next hkl
    have hb : -9223372036854775808 ≤ l.getD k 0 ∧ l.getD k 0 ≤ 9223372036854775807 := hlb _ (by simp [hkl])
    generalize hx : l.getD k 0 = x at *
    have hq : ∀ q, q = k → (zs l)[q]? = some [.int .i64 x] := fun q e => by rw [zs_one e hkl, hx]
    repeat' (conv => whnf); first
      | ((refine ⟨_, hq _ (by omega), ?_⟩))
      | ((refine Or.inl ⟨by rfl, _, fs_rPut _ hwd (by omega) x (by omega), ?_⟩))
      | ((refine Br.beq (by rfl) ?_))
      | ((refine Br.bne (by rfl) ?_))
      | ((refine And.intro (Or.inl (Nat.zero_le _)) ?_))
      | ((refine And.intro (show _ ≤ _ from Nat.le_of_ble_eq_true rfl) ?_))
      | ((refine And.intro (by intro y hy; simp at hy; subst hy; rfl) ?_))
      | (refine Br.tt ?_)
      | (refine Br.ff ?_)
      | (refine Br.dec (fun h => ?_) (fun h => ?_)) <;> try (exfalso; omega)
      | (refine Br.neg ?_)
      | (refine Br.mk (fun h => ?_) (fun h => ?_))
      | (refine And.intro rfl ?_)
      | (refine And.intro (by omega) ?_)
      | (refine ⟨_, Or.inl ⟨⟨by omega, by omega⟩, rfl⟩, ?_⟩)
      | (refine And.intro (by simp only [lens_all, U_len, zs_len, its_len, ints_len]; first | done | omega) ?_)
      | (refine And.intro (Nat.le_refl _) ?_)
      | fail
    · refine ⟨k + 1, (show k + 1 ≤ l.length by omega), (show l.length - (k + 1) < l.length - k by omega), ⟨rfl, rfl, ?_, rfl, trivial⟩, ⟨⟨rfl, rfl, trivial⟩, ⟨rfl, rfl, rfl, trivial⟩, rfl, rfl, ⟨rfl, rfl, rfl, trivial⟩, rfl, trivial⟩, rfl⟩
      show U (put1 (puts p (zeroW n) (l.take k)) x) = U (puts p (zeroW n) (l.take (k + 1)))
      rw [next, show p x = some x by rw [← hp]; exact if_pos ⟨by assumption, by assumption, by assumption⟩]
    all_goals
      refine ⟨k + 1, (show k + 1 ≤ l.length by omega), (show l.length - (k + 1) < l.length - k by omega), ⟨rfl, rfl, ?_, rfl, trivial⟩, ⟨⟨rfl, rfl, trivial⟩, ⟨rfl, rfl, rfl, trivial⟩, rfl, rfl, ⟨rfl, rfl, rfl, trivial⟩, rfl, trivial⟩, rfl⟩
      show U (puts p (zeroW n) (l.take k)) = U (puts p (zeroW n) (l.take (k + 1)))
      rw [next, show p x = none by rw [← hp]; exact if_neg (fun hh => h (by first | exact hh.1 | exact hh.2.1 | exact hh.2.2))]
  · obtain rfl : k = l.length := by omega
    repeat' (conv => whnf); first
      | ((refine Br.beq (by rfl) ?_))
      | ((refine Br.bne (by rfl) ?_))
      | ((refine And.intro (Or.inl (Nat.zero_le _)) ?_))
      | ((refine And.intro (show _ ≤ _ from Nat.le_of_ble_eq_true rfl) ?_))
      | ((refine And.intro (by intro y hy; simp at hy; subst hy; rfl) ?_))
      | (refine Br.tt ?_)
      | (refine Br.ff ?_)
      | (refine Br.dec (fun h => ?_) (fun h => ?_)) <;> try (exfalso; omega)
      | (refine Br.neg ?_)
      | (refine Br.mk (fun h => ?_) (fun h => ?_))
      | (refine And.intro rfl ?_)
      | (refine And.intro (by omega) ?_)
      | (refine ⟨_, Or.inl ⟨⟨by omega, by omega⟩, rfl⟩, ?_⟩)
      | (refine And.intro (by simp only [lens_all]; first | done | omega) ?_)
      | (refine And.intro (Nat.le_refl _) ?_)
      | fail
    refine ⟨?_, ⟨⟨rfl, rfl, trivial⟩, ⟨rfl, rfl, rfl, trivial⟩, rfl, rfl, ⟨rfl, rfl, rfl, trivial⟩, rfl, trivial⟩⟩
    show U (puts p (zeroW n) (l.take l.length)) = _
    rw [List.take_length]; rfl

def ir_fretworkref10_Of : IR :=
(.seq (.reg (⟨(some 1), .bx (.t 0), none⟩ ::⟨(some 2), .al [.int .i64 0, .nils, .nils], none⟩ :: [])) (.seq (.reg (⟨(some 6), .ld 2 true (.t 1), none⟩ ::⟨(some 7), .call (.c (.fn 76 [])) [(.t 6)], none⟩ ::⟨none, .st 2 (.t 1) (.t 7), none⟩ :: [])) (.seq (.reg (⟨(some 8), .fa 0 (.t 1), none⟩ ::⟨(some 9), .ld 1 false (.t 8), none⟩ ::⟨(some 10), .call (.c (.fn 26 [])) [(.t 9)], none⟩ ::⟨(some 3), .al [.int .i64 0, .nils, .nils], none⟩ ::⟨none, .st 3 (.t 3) (.t 10), none⟩ :: [])) (.seq (.reg (⟨(some 4), .mv (.c (.nils)), none⟩ :: [])) (.seq (.seq (.reg (⟨(some 5), .mv (.c (.int .i64 0)), none⟩ :: [])) (.block 0 (.loop (.seq (.seq (.reg (⟨(some 11), .mv (.t 5), none⟩ ::⟨(some 12), .fa 1 (.t 1), none⟩ ::⟨(some 13), .ld 1 false (.t 12), none⟩ ::⟨(some 14), .ln (.t 13), none⟩ ::⟨(some 15), .bin .lss (.t 11) (.t 14), none⟩ :: [])) (.cond (.t 15) .skip (.exit 0))) (.seq (.block 1 (.seq (.reg (⟨(some 18), .mv (.t 4), none⟩ ::⟨(some 19), .fa 1 (.t 1), none⟩ ::⟨(some 20), .ld 1 false (.t 19), none⟩ ::⟨(some 21), .mv (.t 5), none⟩ ::⟨(some 22), .ia 2 (.t 20) (.t 21), none⟩ ::⟨(some 23), .fa 0 (.t 22), none⟩ ::⟨(some 24), .ld 1 false (.t 23), none⟩ ::⟨(some 25), .bsl 1 1 [.int .i64 0] [(0, (.t 24))], none⟩ ::⟨(some 26), .ap 1 8 (.t 18) (.t 25), none⟩ ::⟨(some 4), .mv (.t 26), none⟩ :: [])) (.draw (⟨(some 27), .fa 2 (.t 3), none⟩ ::⟨(some 28), .ld 1 false (.t 27), none⟩ ::⟨(some 29), .fa 1 (.t 1), none⟩ ::⟨(some 30), .ld 1 false (.t 29), none⟩ ::⟨(some 31), .mv (.t 5), none⟩ ::⟨(some 32), .ia 2 (.t 30) (.t 31), none⟩ ::⟨(some 33), .fa 0 (.t 32), none⟩ ::⟨(some 34), .ld 1 false (.t 33), none⟩ ::⟨(some 35), .fa 1 (.t 1), none⟩ ::⟨(some 36), .ld 1 false (.t 35), none⟩ ::⟨(some 37), .mv (.t 5), none⟩ ::⟨(some 38), .ia 2 (.t 36) (.t 37), none⟩ ::⟨(some 39), .fa 1 (.t 38), none⟩ ::⟨(some 40), .ld 1 false (.t 39), none⟩ :: []) (⟨(some 41), .ia 1 (.t 28) (.t 34), none⟩ ::⟨none, .st 1 (.t 41) (.t 40), none⟩ :: [])))) (.reg (⟨(some 16), .mv (.t 5), none⟩ ::⟨(some 17), .bin .add (.t 16) (.c (.int .i64 1)), none⟩ ::⟨(some 5), .mv (.t 17), none⟩ :: []))))))) (.seq (.reg (⟨(some 42), .fa 0 (.t 1), none⟩ ::⟨(some 43), .ld 1 false (.t 42), none⟩ ::⟨(some 44), .mv (.t 4), none⟩ ::⟨(some 45), .call (.c (.fn 77 [])) [(.t 43), (.t 44)], none⟩ ::⟨(some 46), .fa 1 (.t 3), none⟩ ::⟨none, .st 1 (.t 46) (.t 45), none⟩ :: [])) (.seq (.reg (⟨(some 47), .ld 3 true (.t 3), none⟩ ::⟨none, .st 3 (.t 2) (.t 47), none⟩ :: [])) .ret)))))))
theorem cd_fretworkref10_Of : Code1 Try.prog 24 48 ir_fretworkref10_Of [.c 3 true 2] := ⟨Try.call24, _, _, Try.func24, rfl, by kernel_rfl, by kernel_rfl, by kernel_rfl, by kernel_rfl⟩

set_option maxHeartbeats 4000000 in
theorem fs_r10Of (n : Int) (l : List (Int × Int)) (hl : l.length ≤ 400000000) : FS Try.prog 24 [VC n l] (dV (sn n l) (sl n l)) := by
  refine fs_of_cvc mixed cd_fretworkref10_Of (by simp) ?_
  have c1 := fs_r9Sure n l (by omega)
  have hok := okV n l
  generalize sn n l = N at *
  generalize sl n l = A at *
  have hal := its_len A
  have hle := hok.le
  have hn0 := hok.n0
  have hn1 := hok.n1
  have c2 := fo_r10New N
  rw [hok.clip] at c2
  have hpl := plsI_len A
  have hzp := zs_len (plsI A)
  have c4 := fs_rOf N (by omega) (by omega) (plsI A) (by rw [plsI_len]; omega) (ib_pls hok)
  repeat' (conv => whnf); first
    | ((refine Or.inl ⟨by rfl, _, c1, ?_⟩))
    | ((refine Or.inr (Or.inl ⟨by rfl, _, _, c2, ?_⟩)))
    | ((refine Br.beq (by rfl) ?_))
    | ((refine Br.bne (by rfl) ?_))
    | ((refine And.intro (Or.inl (Nat.zero_le _)) ?_))
    | ((refine And.intro (show _ ≤ _ from Nat.le_of_ble_eq_true rfl) ?_))
    | ((refine And.intro (by intro y hy; simp at hy; subst hy; rfl) ?_))
    | (refine Br.tt ?_)
    | (refine Br.ff ?_)
    | (refine Br.dec (fun h => ?_) (fun h => ?_)) <;> try (exfalso; omega)
    | (refine Br.neg ?_)
    | (refine Br.mk (fun h => ?_) (fun h => ?_))
    | (refine And.intro rfl ?_)
    | (refine And.intro (by omega) ?_)
    | (refine ⟨_, Or.inl ⟨⟨by omega, by omega⟩, rfl⟩, ?_⟩)
    | (refine And.intro (by simp only [lens_all, U_len, zs_len, its_len, ints_len]; first | done | omega) ?_)
    | (refine And.intro (Nat.le_refl _) ?_)
    | fail
  refine ⟨Nat, fun k => k ≤ A.length, fun k => [(1, .ptr 0 0 0 0), (2, .ptr 1 0 0 0), (3, .ptr 4 0 0 0), (4, .osl 5 1 0 k), (5, .int .i64 (k : Int))],
    fun k => [.vars [.int .i64 N, IL A], .vars [.int .i64 0, .nils, .nils], .arr 1 (uw (List.replicate (wordsI N) 0)), .arr 1 (zs (setsV (List.replicate N.toNat 0) (A.take k))), .vars [.int .i64 N, .osl 2 1 0 (wordsI N), .osl 3 1 0 N.toNat], .arr 1 (zs (plsI (A.take k)))], fun _ => none, fun k => A.length - k,
    ⟨0, Nat.zero_le _, ⟨rfl, rfl, rfl, ⟨Nat.le_refl _, rfl, rfl⟩, rfl, trivial⟩, ⟨⟨rfl, rfl, trivial⟩, ⟨rfl, rfl, rfl, trivial⟩, rfl, rfl, ⟨rfl, rfl, rfl, trivial⟩, rfl, trivial⟩, rfl⟩, fun k hk => ?_⟩
  have hk : k ≤ A.length := hk
  have hsl : (setsV (List.replicate N.toNat 0) (A.take k)).length = N.toNat := by rw [setsV_len, List.length_replicate]
  have hpk : (zs (plsI (A.take k))).length = k := by simp [zs, plsI]; omega
  by_cases hkl : k < A.length
  · obtain ⟨x, hx⟩ : ∃ x, A.getD k (0, 0) = x := ⟨_, rfl⟩
    have hxk : A[k]? = some x := by rw [← hx]; simp [hkl]
    have hxb := hok.lo x (List.mem_of_getElem? hxk)
    repeat' (conv => whnf); first
      | ((refine its_go' (i := k) (by omega) hx ?_))
      | ((refine ⟨_, zs_one (i := x.1.toNat) (by omega) (by omega), ?_⟩))
      | ((refine Br.beq (by rfl) ?_))
      | ((refine Br.bne (by rfl) ?_))
      | ((refine And.intro (Or.inl (Nat.zero_le _)) ?_))
      | ((refine And.intro (show _ ≤ _ from Nat.le_of_ble_eq_true rfl) ?_))
      | ((refine And.intro (by intro y hy; simp at hy; subst hy; rfl) ?_))
      | (refine Br.tt ?_)
      | (refine Br.ff ?_)
      | (refine Br.dec (fun h => ?_) (fun h => ?_)) <;> try (exfalso; omega)
      | (refine Br.neg ?_)
      | (refine Br.mk (fun h => ?_) (fun h => ?_))
      | (refine And.intro rfl ?_)
      | (refine And.intro (by omega) ?_)
      | (refine ⟨_, Or.inl ⟨⟨by omega, by omega⟩, rfl⟩, ?_⟩)
      | (refine And.intro (by simp only [lens_all, its_len]; first | done | omega) ?_)
      | (refine And.intro (Nat.le_refl _) ?_)
      | fail
    refine ⟨k + 1, (show k + 1 ≤ A.length by omega), (show A.length - (k + 1) < A.length - k by omega), ⟨rfl, rfl, rfl, rfl, rfl, trivial⟩, ⟨⟨rfl, rfl, trivial⟩, ⟨rfl, rfl, rfl, trivial⟩, rfl, ?_, ⟨rfl, rfl, rfl, trivial⟩, ?_, trivial⟩, rfl⟩
    · show Blk.arr 1 ((zs (setsV (List.replicate N.toNat 0) (A.take k))).set (0 + x.1.toNat) [.int .i64 x.2]) = _
      rw [Nat.zero_add, zs_set, setsV_more hxk]
    · refine congrArg (Blk.arr 1) ?_
      rw [vtk_more hxk]
      unfold zs plsI
      rw [List.map_append, List.map_append]; rfl
  · obtain rfl : k = A.length := by omega
    have e1 : A.take A.length = A := List.take_length
    have c5 := hs_rOf10 N hn0 hn1 (plsI (A.take A.length)) (by rw [e1]; omega) (by rw [e1]; exact ib_pls hok) A (List.replicate (wordsI N) 0) (setsV (List.replicate N.toNat 0) (A.take A.length)) (wordsI N) N.toNat A.length (by rw [e1]; exact hpl.symm)
    repeat' (conv => whnf); first
      | ((refine Or.inr (Or.inr (Or.inr (Or.inl ⟨_, _, [], c5, by simp, ?_⟩)))))
      | ((refine Br.beq (by rfl) ?_))
      | ((refine Br.bne (by rfl) ?_))
      | ((refine And.intro (Or.inl (Nat.zero_le _)) ?_))
      | ((refine And.intro (show _ ≤ _ from Nat.le_of_ble_eq_true rfl) ?_))
      | ((refine And.intro (by intro y hy; simp at hy; subst hy; rfl) ?_))
      | (refine Br.tt ?_)
      | (refine Br.ff ?_)
      | (refine Br.dec (fun h => ?_) (fun h => ?_)) <;> try (exfalso; omega)
      | (refine Br.neg ?_)
      | (refine Br.mk (fun h => ?_) (fun h => ?_))
      | (refine And.intro rfl ?_)
      | (refine And.intro (by omega) ?_)
      | (refine ⟨_, Or.inl ⟨⟨by omega, by omega⟩, rfl⟩, ?_⟩)
      | (refine And.intro (by simp only [zs_len]; first | done | omega) ?_)
      | (refine And.intro (Nat.le_refl _) ?_)
      | fail
    conv => whnf
    rw [e1, setsV_to hok, frz_zl (by unfold toL; rw [tab_len])]
    rfl
end
section
open Go.RowKit
attribute [local irreducible] FS FO IT HS

theorem in_go {l : List Nat} {q i b : Nat} {K : List SV → Prop} (hq : q = i) (hv : l[i]? = some b) (h : K [.int .i64 (b : Int)]) : ∀ x, (ints l)[q]? = some x → K x := fun x hx => by
  subst hq
  simp only [ints, List.getElem?_map, hv, Option.map_some, Option.some.injEq] at hx
  rw [← hx]; exact h

def ir_fretworkref10_Back : IR :=
(.seq (.reg (⟨(some 1), .bx (.t 0), none⟩ ::⟨(some 2), .al [.int .i64 0, .nils], none⟩ :: [])) (.seq (.seq (.reg (⟨(some 6), .ld 3 true (.t 1), none⟩ ::⟨(some 7), .call (.c (.fn 18 [])) [(.t 6)], none⟩ ::⟨(some 8), .un .not (.t 7), none⟩ :: [])) (.cond (.t 8) (.seq (.reg (⟨(some 9), .bld [.int .i64 0, .nils] [], none⟩ ::⟨none, .st 2 (.t 2) (.t 9), none⟩ :: [])) .ret) .skip)) (.seq (.reg (⟨(some 10), .fa 0 (.t 1), none⟩ ::⟨(some 11), .ld 1 false (.t 10), none⟩ ::⟨(some 12), .bld [.int .i64 0, .nils] [(0, 1, (.t 11))], none⟩ ::⟨(some 3), .al [.int .i64 0, .nils], none⟩ ::⟨none, .st 2 (.t 3) (.t 12), none⟩ :: [])) (.seq (.reg (⟨(some 13), .fa 1 (.t 1), none⟩ ::⟨(some 14), .ld 1 false (.t 13), none⟩ ::⟨(some 15), .call (.c (.fn 72 [])) [(.t 14)], none⟩ ::⟨(some 4), .mv (.t 15), none⟩ :: [])) (.seq (.seq (.reg (⟨(some 5), .mv (.c (.int .i64 0)), none⟩ :: [])) (.block 0 (.loop (.seq (.seq (.reg (⟨(some 16), .mv (.t 5), none⟩ ::⟨(some 17), .mv (.t 4), none⟩ ::⟨(some 18), .ln (.t 17), none⟩ ::⟨(some 19), .bin .lss (.t 16) (.t 18), none⟩ :: [])) (.cond (.t 19) .skip (.exit 0))) (.seq (.block 1 (.draw (⟨(some 22), .fa 1 (.t 3), none⟩ ::⟨(some 23), .ld 1 false (.t 22), none⟩ ::⟨(some 24), .mv (.t 4), none⟩ ::⟨(some 25), .mv (.t 5), none⟩ ::⟨(some 26), .ia 1 (.t 24) (.t 25), none⟩ ::⟨(some 27), .ld 1 false (.t 26), none⟩ ::⟨(some 28), .fa 2 (.t 1), none⟩ ::⟨(some 29), .ld 1 false (.t 28), none⟩ ::⟨(some 30), .mv (.t 4), none⟩ ::⟨(some 31), .mv (.t 5), none⟩ ::⟨(some 32), .ia 1 (.t 30) (.t 31), none⟩ ::⟨(some 33), .ld 1 false (.t 32), none⟩ ::⟨(some 34), .ia 1 (.t 29) (.t 33), none⟩ ::⟨(some 35), .ld 1 false (.t 34), none⟩ ::⟨(some 36), .bld [.int .i64 0, .int .i64 0] [(0, 1, (.t 27)), (1, 1, (.t 35))], none⟩ ::⟨(some 37), .bsl 1 2 [.int .i64 0, .int .i64 0] [(0, (.t 36))], none⟩ :: []) (⟨(some 38), .ap 2 16 (.t 23) (.t 37), none⟩ ::⟨(some 39), .fa 1 (.t 3), none⟩ ::⟨none, .st 1 (.t 39) (.t 38), none⟩ :: []))) (.reg (⟨(some 20), .mv (.t 5), none⟩ ::⟨(some 21), .bin .add (.t 20) (.c (.int .i64 1)), none⟩ ::⟨(some 5), .mv (.t 21), none⟩ :: []))))))) (.seq (.reg (⟨(some 40), .ld 2 true (.t 3), none⟩ ::⟨none, .st 2 (.t 2) (.t 40), none⟩ :: [])) .ret))))))
theorem cd_fretworkref10_Back : Code1 Try.prog 21 41 ir_fretworkref10_Back [.c 2 true 2] := ⟨Try.call21, _, _, Try.func21, rfl, by kernel_rfl, by kernel_rfl, by kernel_rfl, by kernel_rfl⟩

set_option maxHeartbeats 4000000 in
theorem fs_r10Back (n : Int) (f : List Nat) (v : List Int) (hn : I64 n) (hw : Wd f) (hf : f.length ≤ 1000000) (hv : v.length ≤ 1000000) : FS Try.prog 21 [DV n f v] (VC (dS n f v).1 (bkL (dS n f v).2.1 (dS n f v).2.2)) := by
  refine fs_of_cvc mixed cd_fretworkref10_Back (by simp) ?_
  have c1 := fs_r10Right n f v hn hw hf hv
  cases hR : dR n f v with
  | false =>
    rw [hR] at c1
    have e : dS n f v = (0, [], []) := by unfold dS; rw [hR]; rfl
    rw [e]
    repeat' (conv => whnf); first
      | ((refine Or.inl ⟨by rfl, _, c1, ?_⟩))
      | ((refine Br.beq (by rfl) ?_))
      | ((refine Br.bne (by rfl) ?_))
      | ((refine And.intro (Or.inl (Nat.zero_le _)) ?_))
      | ((refine And.intro (show _ ≤ _ from Nat.le_of_ble_eq_true rfl) ?_))
      | ((refine And.intro (by intro y hy; simp at hy; subst hy; rfl) ?_))
      | (refine Br.tt ?_)
      | (refine Br.ff ?_)
      | (refine Br.dec (fun h => ?_) (fun h => ?_)) <;> try (exfalso; omega)
      | (refine Br.neg ?_)
      | (refine Br.mk (fun h => ?_) (fun h => ?_))
      | (refine And.intro rfl ?_)
      | (refine And.intro (by omega) ?_)
      | (refine ⟨_, Or.inl ⟨⟨by omega, by omega⟩, rfl⟩, ?_⟩)
      | (refine And.intro (by simp only [lens_all, U_len, zs_len, its_len, ints_len]; first | done | omega) ?_)
      | (refine And.intro (Nat.le_refl _) ?_)
      | fail
    all_goals first | exact rfl | exact trivial | exact ⟨rfl, trivial⟩
  | true =>
    rw [hR] at c1
    have hok := okD_of hw hR
    rw [hok.dS]
    have hvl := hok.vl
    have hn1 := hok.n1
    have hzl := zs_len v
    have hil := ints_len (bits f)
    have c2 := fs_rList f hw hf
    have hbl : (bkL f v).length = (bits f).length := by simp [bkL]
    have hble := (okV_bkL hok).le
    repeat' (conv => whnf); first
      | ((refine Or.inl ⟨by rfl, _, c1, ?_⟩))
      | ((refine Or.inl ⟨by rfl, _, c2, ?_⟩))
      | ((refine Br.beq (by rfl) ?_))
      | ((refine Br.bne (by rfl) ?_))
      | ((refine And.intro (Or.inl (Nat.zero_le _)) ?_))
      | ((refine And.intro (show _ ≤ _ from Nat.le_of_ble_eq_true rfl) ?_))
      | ((refine And.intro (by intro y hy; simp at hy; subst hy; rfl) ?_))
      | (refine Br.tt ?_)
      | (refine Br.ff ?_)
      | (refine Br.dec (fun h => ?_) (fun h => ?_)) <;> try (exfalso; omega)
      | (refine Br.neg ?_)
      | (refine Br.mk (fun h => ?_) (fun h => ?_))
      | (refine And.intro rfl ?_)
      | (refine And.intro (by omega) ?_)
      | (refine ⟨_, Or.inl ⟨⟨by omega, by omega⟩, rfl⟩, ?_⟩)
      | (refine And.intro (by simp only [lens_all, U_len, zs_len, its_len, ints_len]; first | done | omega) ?_)
      | (refine And.intro (Nat.le_refl _) ?_)
      | fail
    refine ⟨Nat, fun k => k ≤ (bits f).length, fun k => [(1, .ptr 0 0 0 0), (2, .ptr 1 0 0 0), (3, .ptr 2 0 0 0), (4, I (bits f)), (5, .int .i64 (k : Int))], fun k => [.vars [.int .i64 n, U f, Z v], .vars [.int .i64 0, .nils], .vars [.int .i64 n, .osl 3 2 0 k], .arr 2 (its ((bkL f v).take k))], fun _ => none, fun k => (bits f).length - k,
      ⟨0, Nat.zero_le _, ⟨rfl, rfl, rfl, rfl, rfl, trivial⟩, ⟨⟨rfl, rfl, rfl, trivial⟩, ⟨rfl, rfl, trivial⟩, ⟨rfl, ⟨Nat.le_refl _, rfl, rfl⟩, trivial⟩, rfl, trivial⟩, rfl⟩, fun k hk => ?_⟩
    have hk : k ≤ (bits f).length := hk
    have htl : (its ((bkL f v).take k)).length = k := by rw [its_len, List.length_take]; omega
    by_cases hkl : k < (bits f).length
    · obtain ⟨b, hb⟩ : ∃ b, (bits f)[k]? = some b := ⟨_, List.getElem?_eq_getElem hkl⟩
      have hbn := hok.top b ((bits_mem hw).1 (List.mem_of_getElem? hb)).2
      have hbk : (bkL f v)[k]? = some ((b : Int), v.getD b 0) := by simp [bkL, hb]
      repeat' (conv => whnf); first
        | ((refine in_go (i := k) (by omega) hb ?_))
        | ((refine zs_go (i := b) (by omega) rfl ?_))
        | ((refine Br.beq (by rfl) ?_))
        | ((refine Br.bne (by rfl) ?_))
        | ((refine And.intro (Or.inl (Nat.zero_le _)) ?_))
        | ((refine And.intro (show _ ≤ _ from Nat.le_of_ble_eq_true rfl) ?_))
        | ((refine And.intro (by intro y hy; simp at hy; subst hy; rfl) ?_))
        | (refine Br.tt ?_)
        | (refine Br.ff ?_)
        | (refine Br.dec (fun h => ?_) (fun h => ?_)) <;> try (exfalso; omega)
        | (refine Br.neg ?_)
        | (refine Br.mk (fun h => ?_) (fun h => ?_))
        | (refine And.intro rfl ?_)
        | (refine And.intro (by omega) ?_)
        | (refine ⟨_, Or.inl ⟨⟨by omega, by omega⟩, rfl⟩, ?_⟩)
        | (refine And.intro (by simp only [lens_all, ints_len]; first | done | omega) ?_)
        | (refine And.intro (Nat.le_refl _) ?_)
        | fail
      refine ⟨k + 1, (show k + 1 ≤ (bits f).length by omega), (show (bits f).length - (k + 1) < (bits f).length - k by omega), ⟨rfl, rfl, rfl, rfl, rfl, trivial⟩, ⟨⟨rfl, rfl, rfl, trivial⟩, ⟨rfl, rfl, trivial⟩, ⟨rfl, rfl, trivial⟩, ?_, trivial⟩, rfl⟩
      refine congrArg (Blk.arr 2) ?_
      rw [vtk_more hbk, its_append]; rfl
    · obtain rfl : k = (bits f).length := by omega
      repeat' (conv => whnf); first
        | ((refine Br.beq (by rfl) ?_))
        | ((refine Br.bne (by rfl) ?_))
        | ((refine And.intro (Or.inl (Nat.zero_le _)) ?_))
        | ((refine And.intro (show _ ≤ _ from Nat.le_of_ble_eq_true rfl) ?_))
        | ((refine And.intro (by intro y hy; simp at hy; subst hy; rfl) ?_))
        | (refine Br.tt ?_)
        | (refine Br.ff ?_)
        | (refine Br.dec (fun h => ?_) (fun h => ?_)) <;> try (exfalso; omega)
        | (refine Br.neg ?_)
        | (refine Br.mk (fun h => ?_) (fun h => ?_))
        | (refine And.intro rfl ?_)
        | (refine And.intro (by omega) ?_)
        | (refine ⟨_, Or.inl ⟨⟨by omega, by omega⟩, rfl⟩, ?_⟩)
        | (refine And.intro (by simp only [lens_all, U_len, zs_len, its_len, ints_len]; first | done | omega) ?_)
        | (refine And.intro (Nat.le_refl _) ?_)
        | fail
      conv => whnf
      rw [← hbl, show (bkL f v).take (bkL f v).length = bkL f v from List.take_length, frz_its]
      rfl

def ir_fretworkref10_Get : IR :=
(.seq (.reg (⟨(some 2), .bx (.t 0), none⟩ ::⟨(some 4), .mv (.c (.int .i64 0)), none⟩ ::⟨(some 5), .mv (.c (.bool false)), none⟩ :: [])) (.seq (.reg (⟨(some 6), .ld 3 true (.t 2), none⟩ ::⟨(some 7), .call (.c (.fn 21 [])) [(.t 6)], none⟩ ::⟨(some 8), .mv (.t 1), none⟩ ::⟨(some 9), .call (.c (.fn 53 [])) [(.t 7), (.t 8)], none⟩ ::⟨(some 10), .ex 0 (.t 9), none⟩ ::⟨(some 11), .ex 1 (.t 9), none⟩ ::⟨(some 4), .mv (.t 10), none⟩ ::⟨(some 5), .mv (.t 11), none⟩ :: [])) .ret))
theorem cd_fretworkref10_Get : Code1 Try.prog 28 12 ir_fretworkref10_Get [.t 4, .t 5] := ⟨Try.call28, _, _, Try.func28, rfl, by kernel_rfl, by kernel_rfl, by kernel_rfl, by kernel_rfl⟩

theorem fs_r10Get (n : Int) (f : List Nat) (v : List Int) (p : Int) (hn : I64 n) (hw : Wd f) (hf : f.length ≤ 1000000) (hv : v.length ≤ 1000000) : FS Try.prog 28 [DV n f v, .int .i64 p] (.tup [.int .i64 ((dG (dS n f v).2.1 (dS n f v).2.2 p).getD 0), .bool (dG (dS n f v).2.1 (dS n f v).2.2 p).isSome]) := by
  refine fs_of_cvc mixed cd_fretworkref10_Get (by simp) ?_
  have c1 := fs_r10Back n f v hn hw hf hv
  have hok := okD_dS n v hw
  have hb := okV_bkL hok
  have c2 := fs_r9Get (dS n f v).1 (bkL (dS n f v).2.1 (dS n f v).2.2) p (by have := hb.le; omega)
  rw [hb.sl, gt_bkL hok.wd] at c2
  generalize dG (dS n f v).2.1 (dS n f v).2.2 p = t at *
  repeat' (conv => whnf); first
    | ((refine Or.inl ⟨by rfl, _, c1, ?_⟩))
    | ((refine Or.inl ⟨by rfl, _, c2, ?_⟩))
    | ((refine Br.beq (by rfl) ?_))
    | ((refine Br.bne (by rfl) ?_))
    | ((refine And.intro (Or.inl (Nat.zero_le _)) ?_))
    | ((refine And.intro (show _ ≤ _ from Nat.le_of_ble_eq_true rfl) ?_))
    | ((refine And.intro (by intro y hy; simp at hy; subst hy; rfl) ?_))
    | (refine Br.tt ?_)
    | (refine Br.ff ?_)
    | (refine Br.dec (fun h => ?_) (fun h => ?_)) <;> try (exfalso; omega)
    | (refine Br.neg ?_)
    | (refine Br.mk (fun h => ?_) (fun h => ?_))
    | (refine And.intro rfl ?_)
    | (refine And.intro (by omega) ?_)
    | (refine ⟨_, Or.inl ⟨⟨by omega, by omega⟩, rfl⟩, ?_⟩)
    | (refine And.intro (by simp only [lens_all, U_len, zs_len, its_len, ints_len]; first | done | omega) ?_)
    | (refine And.intro (Nat.le_refl _) ?_)
    | fail
  exact rfl

def ir_fretworkref10_Set : IR :=
(.seq (.reg (⟨(some 3), .bx (.t 0), none⟩ ::⟨(some 6), .al [.int .i64 0, .nils, .nils], none⟩ :: [])) (.seq (.reg (⟨(some 7), .ld 3 true (.t 3), none⟩ ::⟨(some 8), .call (.c (.fn 21 [])) [(.t 7)], none⟩ ::⟨(some 9), .mv (.t 1), none⟩ ::⟨(some 10), .mv (.t 2), none⟩ ::⟨(some 11), .call (.c (.fn 56 [])) [(.t 8), (.t 9), (.t 10)], none⟩ ::⟨(some 12), .call (.c (.fn 24 [])) [(.t 11)], none⟩ ::⟨none, .st 3 (.t 6) (.t 12), none⟩ :: [])) .ret))
theorem cd_fretworkref10_Set : Code1 Try.prog 30 13 ir_fretworkref10_Set [.c 3 true 6] := ⟨Try.call30, _, _, Try.func30, rfl, by kernel_rfl, by kernel_rfl, by kernel_rfl, by kernel_rfl⟩

theorem fs_r10Set (n : Int) (f : List Nat) (v : List Int) (p x : Int) (hn : I64 n) (hw : Wd f) (hf : f.length ≤ 1000000) (hv : v.length ≤ 1000000) : FS Try.prog 30 [DV n f v, .int .i64 p, .int .i64 x] (dV (dS n f v).1 (putR (dS n f v).1 (bkL (dS n f v).2.1 (dS n f v).2.2) p x)) := by
  refine fs_of_cvc mixed cd_fretworkref10_Set (by simp) ?_
  have c1 := fs_r10Back n f v hn hw hf hv
  have hok := okD_dS n v hw
  have hb := okV_bkL hok
  generalize bkL (dS n f v).2.1 (dS n f v).2.2 = B at *
  generalize (dS n f v).1 = N at *
  have c2 := fs_r9Put N B p x (by have := hb.le; omega)
  rw [hb.sn, hb.sl] at c2
  have hp := hb.put (p := p) (v := x)
  have c3 := fs_r10Of N (putR N B p x) (by have := hp.le; omega)
  rw [hp.sn, hp.sl] at c3
  repeat' (conv => whnf); first
    | ((refine Or.inl ⟨by rfl, _, c1, ?_⟩))
    | ((refine Or.inl ⟨by rfl, _, c2, ?_⟩))
    | ((refine Or.inl ⟨by rfl, _, c3, ?_⟩))
    | ((refine Br.beq (by rfl) ?_))
    | ((refine Br.bne (by rfl) ?_))
    | ((refine And.intro (Or.inl (Nat.zero_le _)) ?_))
    | ((refine And.intro (show _ ≤ _ from Nat.le_of_ble_eq_true rfl) ?_))
    | ((refine And.intro (by intro y hy; simp at hy; subst hy; rfl) ?_))
    | (refine Br.tt ?_)
    | (refine Br.ff ?_)
    | (refine Br.dec (fun h => ?_) (fun h => ?_)) <;> try (exfalso; omega)
    | (refine Br.neg ?_)
    | (refine Br.mk (fun h => ?_) (fun h => ?_))
    | (refine And.intro rfl ?_)
    | (refine And.intro (by omega) ?_)
    | (refine ⟨_, Or.inl ⟨⟨by omega, by omega⟩, rfl⟩, ?_⟩)
    | (refine And.intro (by simp only [lens_all, U_len, zs_len, its_len, ints_len]; first | done | omega) ?_)
    | (refine And.intro (Nat.le_refl _) ?_)
    | fail
  exact rfl

def ir_fretworkref10_Drop : IR :=
(.seq (.reg (⟨(some 2), .bx (.t 0), none⟩ ::⟨(some 4), .al [.int .i64 0, .nils, .nils], none⟩ :: [])) (.seq (.reg (⟨(some 5), .ld 3 true (.t 2), none⟩ ::⟨(some 6), .call (.c (.fn 21 [])) [(.t 5)], none⟩ ::⟨(some 7), .mv (.t 1), none⟩ ::⟨(some 8), .call (.c (.fn 57 [])) [(.t 6), (.t 7)], none⟩ ::⟨(some 9), .call (.c (.fn 24 [])) [(.t 8)], none⟩ ::⟨none, .st 3 (.t 4) (.t 9), none⟩ :: [])) .ret))
theorem cd_fretworkref10_Drop : Code1 Try.prog 32 10 ir_fretworkref10_Drop [.c 3 true 4] := ⟨Try.call32, _, _, Try.func32, rfl, by kernel_rfl, by kernel_rfl, by kernel_rfl, by kernel_rfl⟩

theorem fs_r10Drop (n : Int) (f : List Nat) (v : List Int) (p : Int) (hn : I64 n) (hw : Wd f) (hf : f.length ≤ 1000000) (hv : v.length ≤ 1000000) : FS Try.prog 32 [DV n f v, .int .i64 p] (dV (dS n f v).1 (rest (fun y => decide (y.1 = p)) (bkL (dS n f v).2.1 (dS n f v).2.2))) := by
  refine fs_of_cvc mixed cd_fretworkref10_Drop (by simp) ?_
  have c1 := fs_r10Back n f v hn hw hf hv
  have hok := okD_dS n v hw
  have hb := okV_bkL hok
  generalize bkL (dS n f v).2.1 (dS n f v).2.2 = B at *
  generalize (dS n f v).1 = N at *
  have c2 := fs_r9Drop N B p (by have := hb.le; omega)
  rw [hb.sn, hb.sl] at c2
  have hp : OkV N (rest (fun y => decide (y.1 = p)) B) := hb.filt _
  have c3 := fs_r10Of N (rest (fun y => decide (y.1 = p)) B) (by have := hp.le; omega)
  rw [hp.sn, hp.sl] at c3
  generalize rest (fun y => decide (y.1 = p)) B = R at *
  repeat' (conv => whnf); first
    | ((refine Or.inl ⟨by rfl, _, c1, ?_⟩))
    | ((refine Or.inl ⟨by rfl, _, c2, ?_⟩))
    | ((refine Or.inl ⟨by rfl, _, c3, ?_⟩))
    | ((refine Br.beq (by rfl) ?_))
    | ((refine Br.bne (by rfl) ?_))
    | ((refine And.intro (Or.inl (Nat.zero_le _)) ?_))
    | ((refine And.intro (show _ ≤ _ from Nat.le_of_ble_eq_true rfl) ?_))
    | ((refine And.intro (by intro y hy; simp at hy; subst hy; rfl) ?_))
    | (refine Br.tt ?_)
    | (refine Br.ff ?_)
    | (refine Br.dec (fun h => ?_) (fun h => ?_)) <;> try (exfalso; omega)
    | (refine Br.neg ?_)
    | (refine Br.mk (fun h => ?_) (fun h => ?_))
    | (refine And.intro rfl ?_)
    | (refine And.intro (by omega) ?_)
    | (refine ⟨_, Or.inl ⟨⟨by omega, by omega⟩, rfl⟩, ?_⟩)
    | (refine And.intro (by simp only [lens_all, U_len, zs_len, its_len, ints_len]; first | done | omega) ?_)
    | (refine And.intro (Nat.le_refl _) ?_)
    | fail
  exact rfl

def ir_fretworkref10_Part : IR :=
(.seq (.reg (⟨(some 3), .bx (.t 0), none⟩ ::⟨(some 6), .al [.int .i64 0, .nils, .nils], none⟩ :: [])) (.seq (.reg (⟨(some 7), .ld 3 true (.t 3), none⟩ ::⟨(some 8), .call (.c (.fn 21 [])) [(.t 7)], none⟩ ::⟨(some 9), .mv (.t 1), none⟩ ::⟨(some 10), .mv (.t 2), none⟩ ::⟨(some 11), .call (.c (.fn 63 [])) [(.t 8), (.t 9), (.t 10)], none⟩ ::⟨(some 12), .call (.c (.fn 24 [])) [(.t 11)], none⟩ ::⟨none, .st 3 (.t 6) (.t 12), none⟩ :: [])) .ret))
theorem cd_fretworkref10_Part : Code1 Try.prog 38 13 ir_fretworkref10_Part [.c 3 true 6] := ⟨Try.call38, _, _, Try.func38, rfl, by kernel_rfl, by kernel_rfl, by kernel_rfl, by kernel_rfl⟩

theorem fs_r10Part (n : Int) (f : List Nat) (v : List Int) (p q : Int) (hn : I64 n) (hp : I64 p) (hq : I64 q) (hw : Wd f) (hf : f.length ≤ 1000000) (hv : v.length ≤ 1000000) :
    FS Try.prog 38 [DV n f v, .int .i64 p, .int .i64 q] (dV (ptR (dS n f v).1 (bkL (dS n f v).2.1 (dS n f v).2.2) p q).1 (ptR (dS n f v).1 (bkL (dS n f v).2.1 (dS n f v).2.2) p q).2) := by
  refine fs_of_cvc mixed cd_fretworkref10_Part (by simp) ?_
  have c1 := fs_r10Back n f v hn hw hf hv
  have hok := okD_dS n v hw
  have hb := okV_bkL hok
  generalize bkL (dS n f v).2.1 (dS n f v).2.2 = B at *
  generalize (dS n f v).1 = N at *
  have c2 := fs_r9Part N B p q (by have := hb.le; omega) hp hq
  rw [hb.sn, hb.sl] at c2
  have ho := okV_ptR hb p q
  have c3 := fs_r10Of (ptR N B p q).1 (ptR N B p q).2 (by have := ho.le; omega)
  rw [ho.sn, ho.sl] at c3
  generalize ptR N B p q = R at *
  repeat' (conv => whnf); first
    | ((refine Or.inl ⟨by rfl, _, c1, ?_⟩))
    | ((refine Or.inl ⟨by rfl, _, c2, ?_⟩))
    | ((refine Or.inl ⟨by rfl, _, c3, ?_⟩))
    | ((refine Br.beq (by rfl) ?_))
    | ((refine Br.bne (by rfl) ?_))
    | ((refine And.intro (Or.inl (Nat.zero_le _)) ?_))
    | ((refine And.intro (show _ ≤ _ from Nat.le_of_ble_eq_true rfl) ?_))
    | ((refine And.intro (by intro y hy; simp at hy; subst hy; rfl) ?_))
    | (refine Br.tt ?_)
    | (refine Br.ff ?_)
    | (refine Br.dec (fun h => ?_) (fun h => ?_)) <;> try (exfalso; omega)
    | (refine Br.neg ?_)
    | (refine Br.mk (fun h => ?_) (fun h => ?_))
    | (refine And.intro rfl ?_)
    | (refine And.intro (by omega) ?_)
    | (refine ⟨_, Or.inl ⟨⟨by omega, by omega⟩, rfl⟩, ?_⟩)
    | (refine And.intro (by simp only [lens_all, U_len, zs_len, its_len, ints_len]; first | done | omega) ?_)
    | (refine And.intro (Nat.le_refl _) ?_)
    | fail
  exact rfl

def ir_fretworkref10_Count : IR :=
(.seq (.reg (⟨(some 1), .bx (.t 0), none⟩ ::⟨(some 2), .mv (.c (.int .i64 0)), none⟩ :: [])) (.seq (.reg (⟨(some 3), .ld 3 true (.t 1), none⟩ ::⟨(some 4), .call (.c (.fn 21 [])) [(.t 3)], none⟩ ::⟨(some 5), .fd 1 1 false (.t 4), none⟩ ::⟨(some 6), .ln (.t 5), none⟩ ::⟨(some 2), .mv (.t 6), none⟩ :: [])) .ret))
theorem cd_fretworkref10_Count : Code1 Try.prog 34 7 ir_fretworkref10_Count [.t 2] := ⟨Try.call34, _, _, Try.func34, rfl, by kernel_rfl, by kernel_rfl, by kernel_rfl, by kernel_rfl⟩

theorem fs_r10Count (n : Int) (f : List Nat) (v : List Int) (hn : I64 n) (hw : Wd f) (hf : f.length ≤ 1000000) (hv : v.length ≤ 1000000) : FS Try.prog 34 [DV n f v] (.int .i64 ((bits (dS n f v).2.1).length : Int)) := by
  refine fs_of_cvc mixed cd_fretworkref10_Count (by simp) ?_
  have c1 := fs_r10Back n f v hn hw hf hv
  have hl : (its (bkL (dS n f v).2.1 (dS n f v).2.2)).length = (bits (dS n f v).2.1).length := by rw [its_len]; simp [bkL]
  repeat' (conv => whnf); first
    | ((refine Or.inl ⟨by rfl, _, c1, ?_⟩))
    | ((refine Br.beq (by rfl) ?_))
    | ((refine Br.bne (by rfl) ?_))
    | ((refine And.intro (Or.inl (Nat.zero_le _)) ?_))
    | ((refine And.intro (show _ ≤ _ from Nat.le_of_ble_eq_true rfl) ?_))
    | ((refine And.intro (by intro y hy; simp at hy; subst hy; rfl) ?_))
    | (refine Br.tt ?_)
    | (refine Br.ff ?_)
    | (refine Br.dec (fun h => ?_) (fun h => ?_)) <;> try (exfalso; omega)
    | (refine Br.neg ?_)
    | (refine Br.mk (fun h => ?_) (fun h => ?_))
    | (refine And.intro rfl ?_)
    | (refine And.intro (by omega) ?_)
    | (refine ⟨_, Or.inl ⟨⟨by omega, by omega⟩, rfl⟩, ?_⟩)
    | (refine And.intro (by simp only [lens_all, U_len, zs_len, its_len, ints_len]; first | done | omega) ?_)
    | (refine And.intro (Nat.le_refl _) ?_)
    | fail
  exact congrArg (SV.int .i64) (congrArg Int.ofNat hl)
end
section
open Go.RowKit
attribute [local irreducible] FS FO IT HS

def ir_fretworklaw10_small : IR :=
(.seq (.reg (⟨(some 1), .bx (.t 0), none⟩ ::⟨(some 2), .mv (.c (.bool false)), none⟩ :: [])) (.seq (.reg (⟨(some 3), .fa 2 (.t 1), none⟩ ::⟨(some 4), .ld 1 false (.t 3), none⟩ ::⟨(some 5), .ln (.t 4), none⟩ ::⟨(some 6), .bin .leq (.t 5) (.c (.int .i64 150)), none⟩ ::⟨(some 7), .mv (.t 6), none⟩ ::⟨(some 8), .fa 1 (.t 1), some (7, true)⟩ ::⟨(some 9), .ld 1 false (.t 8), some (7, true)⟩ ::⟨(some 10), .ln (.t 9), some (7, true)⟩ ::⟨(some 11), .bin .leq (.t 10) (.c (.int .i64 5)), some (7, true)⟩ ::⟨(some 12), .pick (.t 7) (.t 11) (.c (.bool false)), none⟩ ::⟨(some 2), .mv (.t 12), none⟩ :: [])) .ret))
theorem cd_fretworklaw10_small : Code1 Try.prog 16 13 ir_fretworklaw10_small [.t 2] := ⟨Try.call16, _, _, Try.func16, rfl, by kernel_rfl, by kernel_rfl, by kernel_rfl, by kernel_rfl⟩

theorem fs_small (n : Int) (f : List Nat) (v : List Int) : FS Try.prog 16 [DV n f v] (.bool (decide (v.length ≤ 150) && decide (f.length ≤ 5))) := by
  refine fs_of_cvc mixed cd_fretworklaw10_small (by simp) ?_
  have h1 := zs_len v
  have h2 := U_len f
  by_cases a : v.length ≤ 150
  · by_cases b : f.length ≤ 5
    · rw [decide_eq_true a, decide_eq_true b]
      repeat' (conv => whnf); first
        | ((refine Br.beq (by rfl) ?_))
        | ((refine Br.bne (by rfl) ?_))
        | ((refine And.intro (Or.inl (Nat.zero_le _)) ?_))
        | ((refine And.intro (show _ ≤ _ from Nat.le_of_ble_eq_true rfl) ?_))
        | (refine Br.tt ?_)
        | (refine Br.ff ?_)
        | (refine Br.dec (fun h => ?_) (fun h => ?_)) <;> try (exfalso; omega)
        | (refine Br.neg ?_)
        | (refine Br.mk (fun h => ?_) (fun h => ?_))
        | (refine And.intro rfl ?_)
        | (refine And.intro (by omega) ?_)
        | (refine ⟨_, Or.inl ⟨⟨by omega, by omega⟩, rfl⟩, ?_⟩)
        | (refine And.intro (by simp only [lens_all, U_len, zs_len, its_len, ints_len]; first | done | omega) ?_)
        | (refine And.intro (Nat.le_refl _) ?_)
        | fail
      show SV.bool (decide _) = SV.bool _
      rw [decide_eq_true (by omega)]; rfl
    · rw [decide_eq_true a, decide_eq_false b]
      repeat' (conv => whnf); first
        | ((refine Br.beq (by rfl) ?_))
        | ((refine Br.bne (by rfl) ?_))
        | ((refine And.intro (Or.inl (Nat.zero_le _)) ?_))
        | ((refine And.intro (show _ ≤ _ from Nat.le_of_ble_eq_true rfl) ?_))
        | (refine Br.tt ?_)
        | (refine Br.ff ?_)
        | (refine Br.dec (fun h => ?_) (fun h => ?_)) <;> try (exfalso; omega)
        | (refine Br.neg ?_)
        | (refine Br.mk (fun h => ?_) (fun h => ?_))
        | (refine And.intro rfl ?_)
        | (refine And.intro (by omega) ?_)
        | (refine ⟨_, Or.inl ⟨⟨by omega, by omega⟩, rfl⟩, ?_⟩)
        | (refine And.intro (by simp only [lens_all, U_len, zs_len, its_len, ints_len]; first | done | omega) ?_)
        | (refine And.intro (Nat.le_refl _) ?_)
        | fail
      show SV.bool (decide _) = SV.bool _
      rw [decide_eq_false (by omega)]; rfl
  · rw [decide_eq_false a, Bool.false_and]
    repeat' (conv => whnf); first
      | ((refine Br.beq (by rfl) ?_))
      | ((refine Br.bne (by rfl) ?_))
      | ((refine And.intro (Or.inl (Nat.zero_le _)) ?_))
      | ((refine And.intro (show _ ≤ _ from Nat.le_of_ble_eq_true rfl) ?_))
      | (refine Br.tt ?_)
      | (refine Br.ff ?_)
      | (refine Br.dec (fun h => ?_) (fun h => ?_)) <;> try (exfalso; omega)
      | (refine Br.neg ?_)
      | (refine Br.mk (fun h => ?_) (fun h => ?_))
      | (refine And.intro rfl ?_)
      | (refine And.intro (by omega) ?_)
      | (refine ⟨_, Or.inl ⟨⟨by omega, by omega⟩, rfl⟩, ?_⟩)
      | (refine And.intro (by simp only [lens_all, U_len, zs_len, its_len, ints_len]; first | done | omega) ?_)
      | (refine And.intro (Nat.le_refl _) ?_)
      | fail
    exact rfl

theorem fs_sameV {n : Int} {l : List (Int × Int)} (h : OkV n l) : FS Try.prog 22 [dV n l, dV n l] (.bool true) := by
  have := fs_r10Same n (toF n l) (toL n l) n (toF n l) (toL n l) (by have := dl_f h; omega) (by have := dl_v h; omega)
  rwa [decide_eq_true rfl, decide_eq_true rfl, decide_eq_true rfl] at this
end
end Go.Proofs.Ytahpfomabgfmkaa
