/- Dense vectors: Right of both, sure, own, Get, Count. -/
import Derived.Test.YtelbhbadkbcakaaGreatD0
namespace Go.Proofs.YtelbhbadkbcakaaGreat
section
open Go.RowKit
attribute [local irreducible] FS FO IT HS
theorem all_more {f : List Nat} {v : List Int} {k : Nat} {b : Bool} (h : ((List.range k).all fun (i : Nat)=>hasI f (i : Int) || v.getD i 0 == 0) = b) : ((List.range (k + 1)).all fun (i : Nat)=>hasI f (i : Int) || v.getD i 0 == 0) = (b && (hasI f (k : Int) || v.getD k 0 == 0)):=by
  rw [List.range_succ,List.all_append,h]
  simp
theorem all_less {f : List Nat} {v : List Int} {k m : Nat} (hk : k <= m) (h : ((List.range k).all fun (i : Nat)=>hasI f (i : Int) || v.getD i 0 == 0) = false) : ((List.range m).all fun (i : Nat)=>hasI f (i : Int) || v.getD i 0 == 0) = false:=by
  rw [Bool.eq_false_iff] at h ⊢
  intro h'
  apply h
  rw [List.all_eq_true] at h' ⊢
  intro x hx
  exact h' x (by simp at hx ⊢; omega)
def ir_devec_Right : IR :=
(.seq (.reg (⟨some 1,.bx (.t 0),none⟩::⟨some 2,.mv (.c (.bool false)),none⟩::[])) (.seq (.seq (.reg (⟨some 5,.fa 1 (.t 1),none⟩::⟨some 6,.ld 1 false (.t 5),none⟩::⟨some 7,.fa 0 (.t 1),none⟩::⟨some 8,.ld 1 false (.t 7),none⟩::⟨some 9,.call (.c (.fn 152 [])) [(.t 6),(.t 8)],none⟩::⟨some 10,.un .not (.t 9),none⟩::⟨some 11,.mv (.t 10),none⟩::⟨some 12,.fa 2 (.t 1),some (11,false)⟩::⟨some 13,.ld 1 false (.t 12),some (11,false)⟩::⟨some 14,.ln (.t 13),some (11,false)⟩::⟨some 15,.fa 0 (.t 1),some (11,false)⟩::⟨some 16,.ld 1 false (.t 15),some (11,false)⟩::⟨some 17,.bin .neq (.t 14) (.t 16),some (11,false)⟩::⟨some 18,.pick (.t 11) (.c (.bool true)) (.t 17),none⟩::[])) (.cond (.t 18) (.seq (.reg (⟨some 2,.mv (.c (.bool false)),none⟩::[])) .ret) .skip)) (.seq (.seq (.reg (⟨some 19,.fa 2 (.t 1),none⟩::⟨some 20,.ld 1 false (.t 19),none⟩::⟨some 21,.ln (.t 20),none⟩::⟨some 22,.mv (.c (.int .i64 0)),none⟩::[])) (.block 0 (.loop (.seq (.reg (⟨some 23,.bin .lss (.t 22) (.t 21),none⟩::[])) (.seq (.cond (.t 23) .skip (.exit 0)) (.seq (.block 1 (.seq (.reg (⟨some 24,.mv (.t 22),none⟩::⟨some 25,.ia 1 (.t 20) (.t 22),none⟩::⟨some 26,.ld 1 false (.t 25),none⟩::⟨some 3,.mv (.t 24),none⟩::⟨some 4,.mv (.t 26),none⟩::[])) (.seq (.reg (⟨some 27,.mv (.t 4),none⟩::⟨some 28,.bin .neq (.t 27) (.c (.int .i64 0)),none⟩::⟨some 29,.mv (.t 28),none⟩::⟨some 30,.fa 1 (.t 1),some (29,true)⟩::⟨some 31,.ld 1 false (.t 30),some (29,true)⟩::⟨some 32,.mv (.t 3),some (29,true)⟩::⟨some 33,.call (.c (.fn 114 [])) [(.t 31),(.t 32)],some (29,true)⟩::⟨some 34,.un .not (.t 33),some (29,true)⟩::⟨some 35,.pick (.t 29) (.t 34) (.c (.bool false)),none⟩::[])) (.cond (.t 35) (.seq (.reg (⟨some 2,.mv (.c (.bool false)),none⟩::[])) .ret) .skip)))) (.reg (⟨some 36,.bin .add (.t 22) (.c (.int .i64 1)),none⟩::⟨some 22,.mv (.t 36),none⟩::[])))))))) (.seq (.reg (⟨some 2,.mv (.c (.bool true)),none⟩::[])) .ret))))
theorem cd_devec_Right : Code1 Tryz.prog 123 37 ir_devec_Right [.t 2]:=⟨Tryz.call123,_,_,Tryz.func123,rfl,by kernel_rfl,by kernel_rfl,by kernel_rfl,by kernel_rfl⟩
set_option maxHeartbeats 4000000 in
theorem fs_dRight (n : Int) (f : List Nat) (v : List Int) (hn : I64 n) (hw : Wd f) (hf : f.length <= 1000000) (hv : v.length <= 1000000) : FS Tryz.prog 123 [DV n f v] (.bool (dR n f v)):=by
  refine fs_of_cvc mixed cd_devec_Right (by simp) ?_
  have c1:=fs_Right f hw hf n hn.1 hn.2
  have hvl:=zs_len v
  have c2 : FS Tryz.prog 152 [U f,.int .i64 n] (.bool (rightB f n)):=c1
  obtain ⟨t,ht⟩ : ∃ t,dR n f v = t:=⟨_,rfl⟩
  rw [ht]
  unfold dR at ht
  cases hr : rightB f n with
  | false =>
    rw [hr] at c2 ht
    rw [Bool.false_and] at ht
    subst ht
    repeat' (conv=>whnf); first |(refine Or.inl ⟨by rfl,_,c2,?_⟩) | refine Br.tt ?_ | fail
    exact rfl
  | true =>
    rw [hr] at c2 ht
    rw [Bool.true_and] at ht
    by_cases hl : (v.length : Int) = n
    . rw [decide_eq_true hl,Bool.true_and] at ht
      repeat' (conv=>whnf); first |(refine Or.inl ⟨by rfl,_,c2,?_⟩) | refine Br.ff ?_ |(refine Br.dec (fun h=>?_) (fun h=>?_)) <;> try (exfalso; omega) | refine And.intro rfl ?_ | fail
      refine ⟨Nat,fun k=>k <= v.length /\ ((List.range k).all fun (i : Nat)=>hasI f (i : Int) || v.getD i 0 == 0) = true,fun k=>[(1,.ptr 0 0 0 0),(20,Z v),(21,.int .i64 (v.length : Int)),(22,.int .i64 (k : Int))],fun k=>[.vars [.int .i64 n,U f,Z v]],fun _=>none,fun k=>v.length - k,
        ⟨0,⟨Nat.zero_le _,rfl⟩,⟨rfl,rfl,?_,rfl,trivial⟩,⟨⟨rfl,rfl,rfl,trivial⟩,trivial⟩,rfl⟩,fun k hk=>?_⟩
      . exact congrArg (SV.int .i64) (congrArg Int.ofNat hvl)
      obtain ⟨hk1,hk2⟩:=hk
      by_cases hkv : k < v.length
      . obtain ⟨p,hp⟩ : ∃ p,v.getD k 0 = p:=⟨_,rfl⟩
        have hm:=all_more hk2
        rw [hp,Bool.true_and] at hm
        have c3:=fs_Has f hw (k : Int) (by omega)
        cases hh : hasI f (k : Int) with
        | true =>
          rw [hh] at c3 hm
          repeat' (conv=>whnf); first |(refine zs_go (i:=k) (by omega) hp ?_) |(refine Or.inl ⟨by rfl,_,c3,?_⟩) | refine Br.tt ?_ | refine Br.ff ?_ |(refine Br.dec (fun h=>?_) (fun h=>?_)) <;> try (exfalso; omega) | refine And.intro rfl ?_ |(refine And.intro (by omega) ?_) |(refine ⟨_,Or.inl ⟨⟨by omega,by omega⟩,rfl⟩,?_⟩) | fail
          all_goals exact ⟨k + 1,⟨by omega,by rw [hm]; rfl⟩,(show v.length - (k + 1) < v.length - k by omega),⟨rfl,rfl,rfl,rfl,trivial⟩,⟨⟨rfl,rfl,rfl,trivial⟩,trivial⟩,rfl⟩
        | false =>
          rw [hh,Bool.false_or] at hm
          rw [hh] at c3
          by_cases hp0 : p = 0
          . subst hp0
            repeat' (conv=>whnf); first |(refine zs_go (i:=k) (by omega) hp ?_) | refine Br.ff ?_ |(refine Br.dec (fun h=>?_) (fun h=>?_)) <;> try (exfalso; omega) | refine And.intro rfl ?_ |(refine And.intro (by omega) ?_) |(refine ⟨_,Or.inl ⟨⟨by omega,by omega⟩,rfl⟩,?_⟩) | fail
            all_goals exact ⟨k + 1,⟨by omega,by rw [hm]; rfl⟩,(show v.length - (k + 1) < v.length - k by omega),⟨rfl,rfl,rfl,rfl,trivial⟩,⟨⟨rfl,rfl,rfl,trivial⟩,trivial⟩,rfl⟩
          . have hb : (p == 0) = false:=by simpa using hp0
            rw [hb] at hm
            rw [all_less (by omega) hm] at ht
            subst ht
            repeat' (conv=>whnf); first |(refine zs_go (i:=k) (by omega) hp ?_) |(refine Or.inl ⟨by rfl,_,c3,?_⟩) | refine Br.tt ?_ |(refine Br.dec (fun h=>?_) (fun h=>?_)) <;> try (exfalso; omega) | refine And.intro rfl ?_ |(refine And.intro (by omega) ?_) | fail
            all_goals exact rfl
      . obtain rfl : k = v.length:=by omega
        rw [hk2] at ht
        subst ht
        repeat' (conv=>whnf); first |(refine Br.dec (fun h=>?_) (fun h=>?_)) <;> try (exfalso; omega) | refine And.intro rfl ?_ | fail
        exact rfl
    . rw [decide_eq_false hl,Bool.false_and] at ht
      subst ht
      repeat' (conv=>whnf); first |(refine Or.inl ⟨by rfl,_,c2,?_⟩) | refine Br.ff ?_ |(refine Br.dec (fun h=>?_) (fun h=>?_)) <;> try (exfalso; omega) | refine And.intro rfl ?_ | fail
      exact rfl
theorem fs_dNew (n : Int) : FS Tryz.prog 70 [.int .i64 n] (DV (clipN n) (List.replicate (wordsI (clipN n)) 0) (List.replicate (clipN n).toNat 0)):=by
  refine fs_of_fo (fo_dNew n) ?_
  refine ⟨rfl,by rw [U_len]; simp,rfl,by rw [zs_len]; simp,?_⟩
  have h1 : SV.slc 1 (((uw (List.replicate (wordsI (clipN n)) 0)).drop 0).take (wordsI (clipN n))) = U (List.replicate (wordsI (clipN n)) 0):=frz_U (by simp)
  have h2 : SV.slc 1 (((zs (List.replicate (clipN n).toNat 0)).drop 0).take (clipN n).toNat) = Z (List.replicate (clipN n).toNat 0):=by
    rw [List.drop_zero,List.take_of_length_le (by rw [zs_len]; simp)]; rfl
  show SV.agg [.int .i64 (clipN n),_,_] = SV.agg [.int .i64 (clipN n),_,_]
  rw [h1,h2]
def ir_devec_sure : IR :=
(.seq (.reg (⟨some 1,.bx (.t 0),none⟩::⟨some 2,.al [.int .i64 0,.nils,.nils],none⟩::[])) (.seq (.seq (.reg (⟨some 3,.ld 3 true (.t 1),none⟩::⟨some 4,.call (.c (.fn 123 [])) [(.t 3)],none⟩::[])) (.cond (.t 4) (.seq (.reg (⟨some 5,.ld 3 true (.t 1),none⟩::⟨none,.st 3 (.t 2) (.t 5),none⟩::[])) .ret) .skip)) (.seq (.reg (⟨some 6,.call (.c (.fn 70 [])) [(.c (.int .i64 0))],none⟩::⟨none,.st 3 (.t 2) (.t 6),none⟩::[])) .ret)))
theorem cd_devec_sure : Code1 Tryz.prog 92 7 ir_devec_sure [.c 3 true 2]:=⟨Tryz.call92,_,_,Tryz.func92,rfl,by kernel_rfl,by kernel_rfl,by kernel_rfl,by kernel_rfl⟩
theorem fs_dsure (n : Int) (f : List Nat) (v : List Int) (hn : I64 n) (hw : Wd f) (hf : f.length <= 1000000) (hv : v.length <= 1000000) : FS Tryz.prog 92 [DV n f v] (DV (dS n f v).1 (dS n f v).2.1 (dS n f v).2.2):=by
  refine fs_of_cvc mixed cd_devec_sure (by simp) ?_
  have c1:=fs_dRight n f v hn hw hf hv
  have c2 : FS Tryz.prog 70 [.int .i64 0] (DV 0 [] []):=fs_dNew 0
  unfold dS
  cases h : dR n f v with
  | true =>
    rw [h] at c1
    repeat' (conv=>whnf); first |(refine Or.inl ⟨by rfl,_,c1,?_⟩) | refine Br.tt ?_ | refine And.intro rfl ?_ |(refine And.intro (by simp only [lens_all]; first | done | omega) ?_) | fail
    exact rfl
  | false =>
    rw [h] at c1
    repeat' (conv=>whnf); first |(refine Or.inl ⟨by rfl,_,c1,?_⟩) |(refine Or.inl ⟨by rfl,_,c2,?_⟩) | refine Br.ff ?_ | refine And.intro rfl ?_ |(refine And.intro (by simp only [lens_all]; first | done | omega) ?_) | fail
    exact rfl
end
end Go.Proofs.YtelbhbadkbcakaaGreat
