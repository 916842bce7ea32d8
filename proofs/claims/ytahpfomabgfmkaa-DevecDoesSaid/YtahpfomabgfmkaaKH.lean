/- Dense vectors: Right of both, sure, own, Get, Count. -/
import Derived.Test.YtahpfomabgfmkaaKG
namespace Go.Proofs.Ytahpfomabgfmkaa
section
open Go.RowKit
attribute [local irreducible] FS FO IT HS

theorem all_more {f : List Nat} {v : List Int} {k : Nat} {b : Bool} (h : ((List.range k).all fun (i : Nat) => hasI f (i : Int) || v.getD i 0 == 0) = b) : ((List.range (k + 1)).all fun (i : Nat) => hasI f (i : Int) || v.getD i 0 == 0) = (b && (hasI f (k : Int) || v.getD k 0 == 0)) := by
  rw [List.range_succ, List.all_append, h]
  simp
theorem all_less {f : List Nat} {v : List Int} {k m : Nat} (hk : k ≤ m) (h : ((List.range k).all fun (i : Nat) => hasI f (i : Int) || v.getD i 0 == 0) = false) : ((List.range m).all fun (i : Nat) => hasI f (i : Int) || v.getD i 0 == 0) = false := by
  rw [Bool.eq_false_iff] at h ⊢
  intro h'
  apply h
  rw [List.all_eq_true] at h' ⊢
  intro x hx
  exact h' x (by simp at hx ⊢; omega)

def ir_devec_Right : IR :=
(.seq (.reg (⟨(some 1), .bx (.t 0), none⟩ ::⟨(some 2), .mv (.c (.bool false)), none⟩ :: [])) (.seq (.seq (.reg (⟨(some 5), .fa 1 (.t 1), none⟩ ::⟨(some 6), .ld 1 false (.t 5), none⟩ ::⟨(some 7), .fa 0 (.t 1), none⟩ ::⟨(some 8), .ld 1 false (.t 7), none⟩ ::⟨(some 9), .call (.c (.fn 65 [])) [(.t 6), (.t 8)], none⟩ ::⟨(some 10), .un .not (.t 9), none⟩ ::⟨(some 11), .mv (.t 10), none⟩ ::⟨(some 12), .fa 2 (.t 1), some (11, false)⟩ ::⟨(some 13), .ld 1 false (.t 12), some (11, false)⟩ ::⟨(some 14), .ln (.t 13), some (11, false)⟩ ::⟨(some 15), .fa 0 (.t 1), some (11, false)⟩ ::⟨(some 16), .ld 1 false (.t 15), some (11, false)⟩ ::⟨(some 17), .bin .neq (.t 14) (.t 16), some (11, false)⟩ ::⟨(some 18), .pick (.t 11) (.c (.bool true)) (.t 17), none⟩ :: [])) (.cond (.t 18) (.seq (.reg (⟨(some 2), .mv (.c (.bool false)), none⟩ :: [])) .ret) .skip)) (.seq (.seq (.reg (⟨(some 19), .fa 2 (.t 1), none⟩ ::⟨(some 20), .ld 1 false (.t 19), none⟩ ::⟨(some 21), .ln (.t 20), none⟩ ::⟨(some 22), .mv (.c (.int .i64 0)), none⟩ :: [])) (.block 0 (.loop (.seq (.reg (⟨(some 23), .bin .lss (.t 22) (.t 21), none⟩ :: [])) (.seq (.cond (.t 23) .skip (.exit 0)) (.seq (.block 1 (.seq (.reg (⟨(some 24), .mv (.t 22), none⟩ ::⟨(some 25), .ia 1 (.t 20) (.t 22), none⟩ ::⟨(some 26), .ld 1 false (.t 25), none⟩ ::⟨(some 3), .mv (.t 24), none⟩ ::⟨(some 4), .mv (.t 26), none⟩ :: [])) (.seq (.reg (⟨(some 27), .mv (.t 4), none⟩ ::⟨(some 28), .bin .neq (.t 27) (.c (.int .i64 0)), none⟩ ::⟨(some 29), .mv (.t 28), none⟩ ::⟨(some 30), .fa 1 (.t 1), some (29, true)⟩ ::⟨(some 31), .ld 1 false (.t 30), some (29, true)⟩ ::⟨(some 32), .mv (.t 3), some (29, true)⟩ ::⟨(some 33), .call (.c (.fn 66 [])) [(.t 31), (.t 32)], some (29, true)⟩ ::⟨(some 34), .un .not (.t 33), some (29, true)⟩ ::⟨(some 35), .pick (.t 29) (.t 34) (.c (.bool false)), none⟩ :: [])) (.cond (.t 35) (.seq (.reg (⟨(some 2), .mv (.c (.bool false)), none⟩ :: [])) .ret) .skip)))) (.reg (⟨(some 36), .bin .add (.t 22) (.c (.int .i64 1)), none⟩ ::⟨(some 22), .mv (.t 36), none⟩ :: [])))))))) (.seq (.reg (⟨(some 2), .mv (.c (.bool true)), none⟩ :: [])) .ret))))
theorem cd_devec_Right : Code1 Try.prog 17 37 ir_devec_Right [.t 2] := ⟨Try.call17, _, _, Try.func17, rfl, by kernel_rfl, by kernel_rfl, by kernel_rfl, by kernel_rfl⟩

set_option maxHeartbeats 4000000 in
theorem fs_dRight (n : Int) (f : List Nat) (v : List Int) (hn : I64 n) (hw : Wd f) (hf : f.length ≤ 1000000) (hv : v.length ≤ 1000000) : FS Try.prog 17 [DV n f v] (.bool (dR n f v)) := by
  refine fs_of_cvc mixed cd_devec_Right (by simp) ?_
  have c1 := fs_Right f hw hf n hn.1 hn.2
  have hvl := zs_len v
  have c2 : FS Try.prog 65 [U f, .int .i64 n] (.bool (rightB f n)) := c1
  obtain ⟨t, ht⟩ : ∃ t, dR n f v = t := ⟨_, rfl⟩
  rw [ht]
  unfold dR at ht
  cases hr : rightB f n with
  | false =>
    rw [hr] at c2 ht
    rw [Bool.false_and] at ht
    subst ht
    repeat' (conv => whnf); first
      | ((refine Or.inl ⟨by rfl, _, c2, ?_⟩))
      | ((refine Br.beq (by rfl) ?_))
      | ((refine Br.bne (by rfl) ?_))
      | ((refine And.intro (Or.inl (Nat.zero_le _)) ?_))
      | (refine Br.tt ?_)
      | (refine Br.ff ?_)
      | (refine Br.dec (fun h => ?_) (fun h => ?_)) <;> try (exfalso; omega)
      | (refine Br.neg ?_)
      | (refine Br.mk (fun h => ?_) (fun h => ?_))
      | (refine And.intro rfl ?_)
      | (refine And.intro (by omega) ?_)
      | (refine ⟨_, Or.inl ⟨⟨by omega, by omega⟩, rfl⟩, ?_⟩)
      | (refine And.intro (by simp only [lens_all, U_len, zs_len]; first | done | omega) ?_)
      | (refine And.intro (Nat.le_refl _) ?_)
      | fail
    exact rfl
  | true =>
    rw [hr] at c2 ht
    rw [Bool.true_and] at ht
    by_cases hl : (v.length : Int) = n
    · rw [decide_eq_true hl, Bool.true_and] at ht
      repeat' (conv => whnf); first
        | ((refine Or.inl ⟨by rfl, _, c2, ?_⟩))
        | ((refine Br.beq (by rfl) ?_))
        | ((refine Br.bne (by rfl) ?_))
        | ((refine And.intro (Or.inl (Nat.zero_le _)) ?_))
        | (refine Br.tt ?_)
        | (refine Br.ff ?_)
        | (refine Br.dec (fun h => ?_) (fun h => ?_)) <;> try (exfalso; omega)
        | (refine Br.neg ?_)
        | (refine Br.mk (fun h => ?_) (fun h => ?_))
        | (refine And.intro rfl ?_)
        | (refine And.intro (by omega) ?_)
        | (refine ⟨_, Or.inl ⟨⟨by omega, by omega⟩, rfl⟩, ?_⟩)
        | (refine And.intro (by simp only [lens_all, U_len, zs_len]; first | done | omega) ?_)
        | (refine And.intro (Nat.le_refl _) ?_)
        | fail
      refine ⟨Nat, fun k => k ≤ v.length ∧ ((List.range k).all fun (i : Nat) => hasI f (i : Int) || v.getD i 0 == 0) = true, fun k => [(1, .ptr 0 0 0 0), (20, Z v), (21, .int .i64 (v.length : Int)), (22, .int .i64 (k : Int))], fun k => [.vars [.int .i64 n, U f, Z v]], fun _ => none, fun k => v.length - k,
        ⟨0, ⟨Nat.zero_le _, rfl⟩, ⟨rfl, rfl, ?_, rfl, trivial⟩, ⟨⟨rfl, rfl, rfl, trivial⟩, trivial⟩, rfl⟩, fun k hk => ?_⟩
      · exact congrArg (SV.int .i64) (congrArg Int.ofNat hvl)
      obtain ⟨hk1, hk2⟩ := hk
      by_cases hkv : k < v.length
      · obtain ⟨p, hp⟩ : ∃ p, v.getD k 0 = p := ⟨_, rfl⟩
        have hm := all_more hk2
        rw [hp, Bool.true_and] at hm
        have c3 := fs_Has f hw (k : Int) (by omega)
        cases hh : hasI f (k : Int) with
        | true =>
          rw [hh] at c3 hm
          repeat' (conv => whnf); first
            | ((refine zs_go (i := k) (by omega) hp ?_))
            | ((refine Or.inl ⟨by rfl, _, c3, ?_⟩))
            | ((refine Br.beq (by rfl) ?_))
            | ((refine Br.bne (by rfl) ?_))
            | ((refine And.intro (Or.inl (Nat.zero_le _)) ?_))
            | (refine Br.tt ?_)
            | (refine Br.ff ?_)
            | (refine Br.dec (fun h => ?_) (fun h => ?_)) <;> try (exfalso; omega)
            | (refine Br.neg ?_)
            | (refine Br.mk (fun h => ?_) (fun h => ?_))
            | (refine And.intro rfl ?_)
            | (refine And.intro (by omega) ?_)
            | (refine ⟨_, Or.inl ⟨⟨by omega, by omega⟩, rfl⟩, ?_⟩)
            | (refine And.intro (by simp only [lens_all, U_len, zs_len]; first | done | omega) ?_)
            | (refine And.intro (Nat.le_refl _) ?_)
            | fail
          all_goals exact ⟨k + 1, ⟨by omega, by rw [hm]; rfl⟩, (show v.length - (k + 1) < v.length - k by omega), ⟨rfl, rfl, rfl, rfl, trivial⟩, ⟨⟨rfl, rfl, rfl, trivial⟩, trivial⟩, rfl⟩
        | false =>
          rw [hh, Bool.false_or] at hm
          rw [hh] at c3
          by_cases hp0 : p = 0
          · subst hp0
            repeat' (conv => whnf); first
              | ((refine zs_go (i := k) (by omega) hp ?_))
              | ((refine Or.inl ⟨by rfl, _, c3, ?_⟩))
              | ((refine Br.beq (by rfl) ?_))
              | ((refine Br.bne (by rfl) ?_))
              | ((refine And.intro (Or.inl (Nat.zero_le _)) ?_))
              | (refine Br.tt ?_)
              | (refine Br.ff ?_)
              | (refine Br.dec (fun h => ?_) (fun h => ?_)) <;> try (exfalso; omega)
              | (refine Br.neg ?_)
              | (refine Br.mk (fun h => ?_) (fun h => ?_))
              | (refine And.intro rfl ?_)
              | (refine And.intro (by omega) ?_)
              | (refine ⟨_, Or.inl ⟨⟨by omega, by omega⟩, rfl⟩, ?_⟩)
              | (refine And.intro (by simp only [lens_all, U_len, zs_len]; first | done | omega) ?_)
              | (refine And.intro (Nat.le_refl _) ?_)
              | fail
            all_goals exact ⟨k + 1, ⟨by omega, by rw [hm]; rfl⟩, (show v.length - (k + 1) < v.length - k by omega), ⟨rfl, rfl, rfl, rfl, trivial⟩, ⟨⟨rfl, rfl, rfl, trivial⟩, trivial⟩, rfl⟩
          · have hb : (p == 0) = false := by simpa using hp0
            rw [hb] at hm
            rw [all_less (by omega) hm] at ht
            subst ht
            repeat' (conv => whnf); first
              | ((refine zs_go (i := k) (by omega) hp ?_))
              | ((refine Or.inl ⟨by rfl, _, c3, ?_⟩))
              | ((refine Br.beq (by rfl) ?_))
              | ((refine Br.bne (by rfl) ?_))
              | ((refine And.intro (Or.inl (Nat.zero_le _)) ?_))
              | (refine Br.tt ?_)
              | (refine Br.ff ?_)
              | (refine Br.dec (fun h => ?_) (fun h => ?_)) <;> try (exfalso; omega)
              | (refine Br.neg ?_)
              | (refine Br.mk (fun h => ?_) (fun h => ?_))
              | (refine And.intro rfl ?_)
              | (refine And.intro (by omega) ?_)
              | (refine ⟨_, Or.inl ⟨⟨by omega, by omega⟩, rfl⟩, ?_⟩)
              | (refine And.intro (by simp only [lens_all, U_len, zs_len]; first | done | omega) ?_)
              | (refine And.intro (Nat.le_refl _) ?_)
              | fail
            all_goals exact rfl
      · obtain rfl : k = v.length := by omega
        rw [hk2] at ht
        subst ht
        repeat' (conv => whnf); first
          | ((refine Br.beq (by rfl) ?_))
          | ((refine Br.bne (by rfl) ?_))
          | ((refine And.intro (Or.inl (Nat.zero_le _)) ?_))
          | (refine Br.tt ?_)
          | (refine Br.ff ?_)
          | (refine Br.dec (fun h => ?_) (fun h => ?_)) <;> try (exfalso; omega)
          | (refine Br.neg ?_)
          | (refine Br.mk (fun h => ?_) (fun h => ?_))
          | (refine And.intro rfl ?_)
          | (refine And.intro (by omega) ?_)
          | (refine ⟨_, Or.inl ⟨⟨by omega, by omega⟩, rfl⟩, ?_⟩)
          | (refine And.intro (by simp only [lens_all, U_len, zs_len]; first | done | omega) ?_)
          | (refine And.intro (Nat.le_refl _) ?_)
          | fail
        exact rfl
    · rw [decide_eq_false hl, Bool.false_and] at ht
      subst ht
      repeat' (conv => whnf); first
        | ((refine Or.inl ⟨by rfl, _, c2, ?_⟩))
        | ((refine Br.beq (by rfl) ?_))
        | ((refine Br.bne (by rfl) ?_))
        | ((refine And.intro (Or.inl (Nat.zero_le _)) ?_))
        | (refine Br.tt ?_)
        | (refine Br.ff ?_)
        | (refine Br.dec (fun h => ?_) (fun h => ?_)) <;> try (exfalso; omega)
        | (refine Br.neg ?_)
        | (refine Br.mk (fun h => ?_) (fun h => ?_))
        | (refine And.intro rfl ?_)
        | (refine And.intro (by omega) ?_)
        | (refine ⟨_, Or.inl ⟨⟨by omega, by omega⟩, rfl⟩, ?_⟩)
        | (refine And.intro (by simp only [lens_all, U_len, zs_len]; first | done | omega) ?_)
        | (refine And.intro (Nat.le_refl _) ?_)
        | fail
      exact rfl

theorem fs_dNew (n : Int) : FS Try.prog 25 [.int .i64 n] (DV (clipN n) (List.replicate (wordsI (clipN n)) 0) (List.replicate (clipN n).toNat 0)) := by
  refine fs_of_fo (fo_dNew n) ?_
  refine ⟨rfl, by rw [U_len]; simp, rfl, by rw [zs_len]; simp, ?_⟩
  have h1 : SV.slc 1 (((uw (List.replicate (wordsI (clipN n)) 0)).drop 0).take (wordsI (clipN n))) = U (List.replicate (wordsI (clipN n)) 0) := frz_U (by simp)
  have h2 : SV.slc 1 (((zs (List.replicate (clipN n).toNat 0)).drop 0).take (clipN n).toNat) = Z (List.replicate (clipN n).toNat 0) := by
    rw [List.drop_zero, List.take_of_length_le (by rw [zs_len]; simp)]; rfl
  show SV.agg [.int .i64 (clipN n), _, _] = SV.agg [.int .i64 (clipN n), _, _]
  rw [h1, h2]

def ir_devec_sure : IR :=
(.seq (.reg (⟨(some 1), .bx (.t 0), none⟩ ::⟨(some 2), .al [.int .i64 0, .nils, .nils], none⟩ :: [])) (.seq (.seq (.reg (⟨(some 3), .ld 3 true (.t 1), none⟩ ::⟨(some 4), .call (.c (.fn 17 [])) [(.t 3)], none⟩ :: [])) (.cond (.t 4) (.seq (.reg (⟨(some 5), .ld 3 true (.t 1), none⟩ ::⟨none, .st 3 (.t 2) (.t 5), none⟩ :: [])) .ret) .skip)) (.seq (.reg (⟨(some 6), .call (.c (.fn 25 [])) [(.c (.int .i64 0))], none⟩ ::⟨none, .st 3 (.t 2) (.t 6), none⟩ :: [])) .ret)))
theorem cd_devec_sure : Code1 Try.prog 70 7 ir_devec_sure [.c 3 true 2] := ⟨Try.call70, _, _, Try.func70, rfl, by kernel_rfl, by kernel_rfl, by kernel_rfl, by kernel_rfl⟩

theorem fs_dsure (n : Int) (f : List Nat) (v : List Int) (hn : I64 n) (hw : Wd f) (hf : f.length ≤ 1000000) (hv : v.length ≤ 1000000) : FS Try.prog 70 [DV n f v] (DV (dS n f v).1 (dS n f v).2.1 (dS n f v).2.2) := by
  refine fs_of_cvc mixed cd_devec_sure (by simp) ?_
  have c1 := fs_dRight n f v hn hw hf hv
  have c2 : FS Try.prog 25 [.int .i64 0] (DV 0 [] []) := fs_dNew 0
  unfold dS
  cases h : dR n f v with
  | true =>
    rw [h] at c1
    repeat' (conv => whnf); first
      | ((refine Or.inl ⟨by rfl, _, c1, ?_⟩))
      | ((refine Or.inl ⟨by rfl, _, c2, ?_⟩))
      | ((refine Br.beq (by rfl) ?_))
      | ((refine Br.bne (by rfl) ?_))
      | ((refine And.intro (Or.inl (Nat.zero_le _)) ?_))
      | (refine Br.tt ?_)
      | (refine Br.ff ?_)
      | (refine Br.dec (fun h => ?_) (fun h => ?_)) <;> try (exfalso; omega)
      | (refine Br.neg ?_)
      | (refine Br.mk (fun h => ?_) (fun h => ?_))
      | (refine And.intro rfl ?_)
      | (refine And.intro (by omega) ?_)
      | (refine ⟨_, Or.inl ⟨⟨by omega, by omega⟩, rfl⟩, ?_⟩)
      | (refine And.intro (by simp only [lens_all]; first | done | omega) ?_)
      | (refine And.intro (Nat.le_refl _) ?_)
      | fail
    exact rfl
  | false =>
    rw [h] at c1
    repeat' (conv => whnf); first
      | ((refine Or.inl ⟨by rfl, _, c1, ?_⟩))
      | ((refine Or.inl ⟨by rfl, _, c2, ?_⟩))
      | ((refine Br.beq (by rfl) ?_))
      | ((refine Br.bne (by rfl) ?_))
      | ((refine And.intro (Or.inl (Nat.zero_le _)) ?_))
      | (refine Br.tt ?_)
      | (refine Br.ff ?_)
      | (refine Br.dec (fun h => ?_) (fun h => ?_)) <;> try (exfalso; omega)
      | (refine Br.neg ?_)
      | (refine Br.mk (fun h => ?_) (fun h => ?_))
      | (refine And.intro rfl ?_)
      | (refine And.intro (by omega) ?_)
      | (refine ⟨_, Or.inl ⟨⟨by omega, by omega⟩, rfl⟩, ?_⟩)
      | (refine And.intro (by simp only [lens_all]; first | done | omega) ?_)
      | (refine And.intro (Nat.le_refl _) ?_)
      | fail
    exact rfl

theorem zs_scal (l : List Int) : ∀ y ∈ zs l, scalarL y = true := by
  intro y hy
  obtain ⟨v, _, rfl⟩ := List.mem_map.1 hy
  rfl
theorem cp_all {α : Type} {a b : List α} {n : Nat} (h : a.length = n) (h' : b.length = n) : List.take 0 a ++ (List.take n b ++ List.drop (0 + min b.length n) a) = b := by
  rw [List.take_zero, List.nil_append, List.take_of_length_le (by omega), List.drop_eq_nil_of_le (by omega), List.append_nil]

def ir_devec_own : IR :=
(.seq (.reg (⟨(some 1), .bx (.t 0), none⟩ ::⟨(some 2), .al [.int .i64 0, .nils, .nils], none⟩ :: [])) (.seq (.reg (⟨(some 4), .ld 3 true (.t 1), none⟩ ::⟨(some 5), .call (.c (.fn 70 [])) [(.t 4)], none⟩ ::⟨none, .st 3 (.t 1) (.t 5), none⟩ :: [])) (.seq (.reg (⟨(some 6), .fa 0 (.t 1), none⟩ ::⟨(some 7), .ld 1 false (.t 6), none⟩ ::⟨(some 8), .call (.c (.fn 25 [])) [(.t 7)], none⟩ ::⟨(some 3), .al [.int .i64 0, .nils, .nils], none⟩ ::⟨none, .st 3 (.t 3) (.t 8), none⟩ :: [])) (.seq (.reg (⟨(some 9), .fa 1 (.t 3), none⟩ ::⟨(some 10), .ld 1 false (.t 9), none⟩ ::⟨(some 11), .fa 1 (.t 1), none⟩ ::⟨(some 12), .ld 1 false (.t 11), none⟩ ::⟨(some 13), .cp 1 (.t 10) (.t 12), none⟩ :: [])) (.seq (.reg (⟨(some 14), .fa 2 (.t 3), none⟩ ::⟨(some 15), .ld 1 false (.t 14), none⟩ ::⟨(some 16), .fa 2 (.t 1), none⟩ ::⟨(some 17), .ld 1 false (.t 16), none⟩ ::⟨(some 18), .cp 1 (.t 15) (.t 17), none⟩ :: [])) (.seq (.reg (⟨(some 19), .ld 3 true (.t 3), none⟩ ::⟨none, .st 3 (.t 2) (.t 19), none⟩ :: [])) .ret))))))
theorem cd_devec_own : Code1 Try.prog 80 20 ir_devec_own [.c 3 true 2] := ⟨Try.call80, _, _, Try.func80, rfl, by kernel_rfl, by kernel_rfl, by kernel_rfl, by kernel_rfl⟩

set_option maxHeartbeats 2000000 in
theorem fo_down (n : Int) (f : List Nat) (v : List Int) (hn : I64 n) (hw : Wd f) (hf : f.length ≤ 1000000) (hv : v.length ≤ 1000000) : FO Try.prog 80 [DV n f v] (.agg [.int .i64 (dS n f v).1, .osl 0 1 0 (dS n f v).2.1.length, .osl 1 1 0 (dS n f v).2.2.length]) [.arr 1 (uw (dS n f v).2.1), .arr 1 (zs (dS n f v).2.2)] := by
  refine fo_of_cvc mixed cd_devec_own (by simp) ?_
  have c1 := fs_dsure n f v hn hw hf hv
  have hok := okD_dS n v hw
  generalize (dS n f v).1 = N at *
  generalize (dS n f v).2.1 = F at *
  generalize (dS n f v).2.2 = V at *
  have c2 := fo_dNew N
  have hcl : clipN N = N := by have := hok.n0; have := hok.n1; unfold clipN; rw [if_neg (by omega)]
  rw [hcl, ← hok.fl, show N.toNat = V.length by have := hok.vl; omega] at c2
  have h1 := U_len F
  have h2 := zs_len V
  have h3 := U_len (List.replicate F.length 0)
  have h4 := zs_len (List.replicate V.length 0)
  rw [List.length_replicate] at h3 h4
  repeat' (conv => whnf); first
    | ((refine Or.inl ⟨by rfl, _, c1, ?_⟩))
    | ((refine Or.inr (Or.inl ⟨by rfl, _, _, c2, ?_⟩)))
    | ((refine And.intro (scal F) ?_))
    | ((refine And.intro (zs_scal V) ?_))
    | ((refine Br.beq (by rfl) ?_))
    | ((refine Br.bne (by rfl) ?_))
    | ((refine And.intro (Or.inl (Nat.zero_le _)) ?_))
    | (refine Br.tt ?_)
    | (refine Br.ff ?_)
    | (refine Br.dec (fun h => ?_) (fun h => ?_)) <;> try (exfalso; omega)
    | (refine Br.neg ?_)
    | (refine Br.mk (fun h => ?_) (fun h => ?_))
    | (refine And.intro rfl ?_)
    | (refine And.intro (by omega) ?_)
    | (refine ⟨_, Or.inl ⟨⟨by omega, by omega⟩, rfl⟩, ?_⟩)
    | (refine And.intro (by simp only [lens_all]; first | done | omega) ?_)
    | (refine And.intro (Nat.le_refl _) ?_)
    | fail
  refine Or.inr (Or.inr (FoS.two 2 3 (by omega) (MatL.agg (.cons (.same _ rfl) (.cons (.osl 0 2 1 0 _ rfl) (.cons (.osl 1 3 1 0 _ rfl) .nil)))) ?_ ?_ rfl rfl))
  · exact congrArg some (congrArg (Blk.arr 1) (cp_all h3 h1))
  · exact congrArg some (congrArg (Blk.arr 1) (cp_all h4 h2))

theorem fs_CntB (ws : List Nat) (hw : Wd ws) (hl : ws.length ≤ 1000000) : FS Try.prog 83 [U ws] (.int .i64 ((bits ws).length : Int)) := by
  have := fs_Count ws hw hl
  rwa [cnt_eq hw] at this
def ir_devec_Count : IR :=
(.seq (.reg (⟨(some 1), .bx (.t 0), none⟩ ::⟨(some 2), .mv (.c (.int .i64 0)), none⟩ :: [])) (.seq (.reg (⟨(some 3), .ld 3 true (.t 1), none⟩ ::⟨(some 4), .call (.c (.fn 70 [])) [(.t 3)], none⟩ ::⟨(some 5), .fd 1 1 false (.t 4), none⟩ ::⟨(some 6), .call (.c (.fn 83 [])) [(.t 5)], none⟩ ::⟨(some 2), .mv (.t 6), none⟩ :: [])) .ret))
theorem cd_devec_Count : Code1 Try.prog 33 7 ir_devec_Count [.t 2] := ⟨Try.call33, _, _, Try.func33, rfl, by kernel_rfl, by kernel_rfl, by kernel_rfl, by kernel_rfl⟩

theorem fs_dCount (n : Int) (f : List Nat) (v : List Int) (hn : I64 n) (hw : Wd f) (hf : f.length ≤ 1000000) (hv : v.length ≤ 1000000) : FS Try.prog 33 [DV n f v] (.int .i64 ((bits (dS n f v).2.1).length : Int)) := by
  refine fs_of_cvc mixed cd_devec_Count (by simp) ?_
  have c1 := fs_dsure n f v hn hw hf hv
  have hok := okD_dS n v hw
  have c2 := fs_CntB (dS n f v).2.1 hok.wd (by have := hok.len; omega)
  generalize bits (dS n f v).2.1 = B at *
  repeat' (conv => whnf); first
    | ((refine Or.inl ⟨by rfl, _, c1, ?_⟩))
    | ((refine Or.inl ⟨by rfl, _, c2, ?_⟩))
    | ((refine Br.beq (by rfl) ?_))
    | ((refine Br.bne (by rfl) ?_))
    | ((refine And.intro (Or.inl (Nat.zero_le _)) ?_))
    | (refine Br.tt ?_)
    | (refine Br.ff ?_)
    | (refine Br.dec (fun h => ?_) (fun h => ?_)) <;> try (exfalso; omega)
    | (refine Br.neg ?_)
    | (refine Br.mk (fun h => ?_) (fun h => ?_))
    | (refine And.intro rfl ?_)
    | (refine And.intro (by omega) ?_)
    | (refine ⟨_, Or.inl ⟨⟨by omega, by omega⟩, rfl⟩, ?_⟩)
    | (refine And.intro (by simp only [lens_all]; first | done | omega) ?_)
    | (refine And.intro (Nat.le_refl _) ?_)
    | fail
  exact rfl

def ir_devec_Get : IR :=
(.seq (.reg (⟨(some 2), .bx (.t 0), none⟩ ::⟨(some 4), .mv (.c (.int .i64 0)), none⟩ ::⟨(some 5), .mv (.c (.bool false)), none⟩ :: [])) (.seq (.reg (⟨(some 6), .ld 3 true (.t 2), none⟩ ::⟨(some 7), .call (.c (.fn 70 [])) [(.t 6)], none⟩ ::⟨none, .st 3 (.t 2) (.t 7), none⟩ :: [])) (.seq (.seq (.reg (⟨(some 8), .mv (.t 1), none⟩ ::⟨(some 9), .fa 0 (.t 2), none⟩ ::⟨(some 10), .ld 1 false (.t 9), none⟩ ::⟨(some 11), .bin .geq (.t 8) (.t 10), none⟩ ::⟨(some 12), .mv (.t 11), none⟩ ::⟨(some 13), .fa 1 (.t 2), some (12, false)⟩ ::⟨(some 14), .ld 1 false (.t 13), some (12, false)⟩ ::⟨(some 15), .mv (.t 1), some (12, false)⟩ ::⟨(some 16), .call (.c (.fn 66 [])) [(.t 14), (.t 15)], some (12, false)⟩ ::⟨(some 17), .un .not (.t 16), some (12, false)⟩ ::⟨(some 18), .pick (.t 12) (.c (.bool true)) (.t 17), none⟩ :: [])) (.cond (.t 18) (.seq (.reg (⟨(some 4), .mv (.c (.int .i64 0)), none⟩ ::⟨(some 5), .mv (.c (.bool false)), none⟩ :: [])) .ret) .skip)) (.seq (.reg (⟨(some 19), .fa 2 (.t 2), none⟩ ::⟨(some 20), .ld 1 false (.t 19), none⟩ ::⟨(some 21), .mv (.t 1), none⟩ ::⟨(some 22), .ia 1 (.t 20) (.t 21), none⟩ ::⟨(some 23), .ld 1 false (.t 22), none⟩ ::⟨(some 4), .mv (.t 23), none⟩ ::⟨(some 5), .mv (.c (.bool true)), none⟩ :: [])) .ret))))
theorem cd_devec_Get : Code1 Try.prog 27 24 ir_devec_Get [.t 4, .t 5] := ⟨Try.call27, _, _, Try.func27, rfl, by kernel_rfl, by kernel_rfl, by kernel_rfl, by kernel_rfl⟩

set_option maxHeartbeats 2000000 in
theorem fs_dGet (n : Int) (f : List Nat) (v : List Int) (p : Int) (hn : I64 n) (hp : I64 p) (hw : Wd f) (hf : f.length ≤ 1000000) (hv : v.length ≤ 1000000) : FS Try.prog 27 [DV n f v, .int .i64 p] (.tup [.int .i64 ((dG (dS n f v).2.1 (dS n f v).2.2 p).getD 0), .bool (dG (dS n f v).2.1 (dS n f v).2.2 p).isSome]) := by
  refine fs_of_cvc mixed cd_devec_Get (by simp) ?_
  have c1 := fs_dsure n f v hn hw hf hv
  have hok := okD_dS n v hw
  generalize (dS n f v).1 = N at *
  generalize (dS n f v).2.1 = F at *
  generalize (dS n f v).2.2 = V at *
  have hVl := zs_len V
  have hvl := hok.vl
  have c2 := fs_Has F hok.wd p hp.2
  obtain ⟨t, ht⟩ : ∃ t, dG F V p = t := ⟨_, rfl⟩
  rw [ht]
  unfold dG at ht
  cases hh : hasI F p with
  | false =>
    rw [hh] at c2 ht
    rw [if_neg (by simp)] at ht
    subst ht
    repeat' (conv => whnf); first
      | ((refine Or.inl ⟨by rfl, _, c1, ?_⟩))
      | ((refine Or.inl ⟨by rfl, _, c2, ?_⟩))
      | ((refine Br.beq (by rfl) ?_))
      | ((refine Br.bne (by rfl) ?_))
      | ((refine And.intro (Or.inl (Nat.zero_le _)) ?_))
      | (refine Br.tt ?_)
      | (refine Br.ff ?_)
      | (refine Br.dec (fun h => ?_) (fun h => ?_)) <;> try (exfalso; omega)
      | (refine Br.neg ?_)
      | (refine Br.mk (fun h => ?_) (fun h => ?_))
      | (refine And.intro rfl ?_)
      | (refine And.intro (by omega) ?_)
      | (refine ⟨_, Or.inl ⟨⟨by omega, by omega⟩, rfl⟩, ?_⟩)
      | (refine And.intro (by simp only [lens_all]; first | done | omega) ?_)
      | (refine And.intro (Nat.le_refl _) ?_)
      | fail
    all_goals exact rfl
  | true =>
    have h0 : 0 ≤ p := by unfold hasI at hh; rw [Bool.and_eq_true, decide_eq_true_eq] at hh; exact hh.1
    have h1 : p < N := by
      have := hok.top p.toNat (by rw [← hasI_nat, show ((p.toNat : Nat) : Int) = p by omega]; exact hh)
      omega
    rw [hh] at c2 ht
    rw [if_pos rfl] at ht
    subst ht
    repeat' (conv => whnf); first
      | ((refine Or.inl ⟨by rfl, _, c1, ?_⟩))
      | ((refine Or.inl ⟨by rfl, _, c2, ?_⟩))
      | ((refine zs_go (i := p.toNat) (by omega) rfl ?_))
      | ((refine Br.beq (by rfl) ?_))
      | ((refine Br.bne (by rfl) ?_))
      | ((refine And.intro (Or.inl (Nat.zero_le _)) ?_))
      | (refine Br.tt ?_)
      | (refine Br.ff ?_)
      | (refine Br.dec (fun h => ?_) (fun h => ?_)) <;> try (exfalso; omega)
      | (refine Br.neg ?_)
      | (refine Br.mk (fun h => ?_) (fun h => ?_))
      | (refine And.intro rfl ?_)
      | (refine And.intro (by omega) ?_)
      | (refine ⟨_, Or.inl ⟨⟨by omega, by omega⟩, rfl⟩, ?_⟩)
      | (refine And.intro (by simp only [lens_all]; first | done | omega) ?_)
      | (refine And.intro (Nat.le_refl _) ?_)
      | fail
    all_goals exact rfl
end
end Go.Proofs.Ytahpfomabgfmkaa
