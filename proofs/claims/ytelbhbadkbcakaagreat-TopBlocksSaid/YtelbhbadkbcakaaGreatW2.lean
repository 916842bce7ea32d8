/- Rings and wide numbers: the document's functions. Rings: the document's functions. -/
import Derived.Test.YtelbhbadkbcakaaGreatW1
namespace Go.Proofs.YtelbhbadkbcakaaGreat
section
open Go.RowKit
attribute [local irreducible] FS FO IT HS
theorem wn_zero : SV.agg [.int .i64 0,.int .u64 0] = WN 0:=by unfold WN; rw [zero_hi,zero_lo]
theorem wn_one : SV.agg [.int .i64 0,.int .u64 1] = WN 1:=by unfold WN; rw [one_hi,one_lo]
def ir_fretworkref01_Of : IR :=
(.seq (.reg (⟨some 2,.al [.int .i64 0,.int .u64 0],none⟩::[])) (.seq (.seq (.reg (⟨some 3,.mv (.t 0),none⟩::⟨some 4,.bin .lss (.t 3) (.c (.int .i64 0)),none⟩::[])) (.cond (.t 4) (.seq (.reg (⟨some 5,.mv (.t 0),none⟩::⟨some 6,.cv .u64 (.t 5),none⟩::⟨some 7,.bld [.int .i64 0,.int .u64 0] [(0,1,(.c (.int .i64 (-1)))),(1,1,(.t 6))],none⟩::⟨none,.st 2 (.t 2) (.t 7),none⟩::[])) .ret) .skip)) (.seq (.reg (⟨some 8,.mv (.t 0),none⟩::⟨some 9,.cv .u64 (.t 8),none⟩::⟨some 10,.bld [.int .i64 0,.int .u64 0] [(1,1,(.t 9))],none⟩::⟨none,.st 2 (.t 2) (.t 10),none⟩::[])) .ret)))
theorem cd_fretworkref01_Of : Code1 Tryz.prog 106 11 ir_fretworkref01_Of [.c 2 true 2]:=⟨Tryz.call106,_,_,Tryz.func106,rfl,by kernel_rfl,by kernel_rfl,by kernel_rfl,by kernel_rfl⟩
theorem fs_r1Of (n : Int) (h : I64 n) : FS Tryz.prog 106 [.int .i64 n] (WN n):=by
  refine fs_of_cvc mixed cd_fretworkref01_Of (by simp) ?_
  repeat' (conv=>whnf); first |(refine ⟨_,Or.inr rfl,?_⟩) |(refine Br.dec (fun h=>?_) (fun h=>?_)) <;> try (exfalso; omega) | refine And.intro rfl ?_ |(refine And.intro (by simp only [lens_all]; first | done | omega) ?_) |(refine And.intro (Nat.le_refl _) ?_) | fail
  all_goals
    rename_i hn
    show SV.agg [SV.int .i64 _,SV.int .u64 _] = WN _
    refine wn_eq ?_ (of_lo n)
  . exact of_hi_neg n hn h
  . exact of_hi_pos n hn h
def ir_fretworkref01_Add : IR :=
(.seq (.reg (⟨some 2,.bx (.t 0),none⟩::⟨some 3,.bx (.t 1),none⟩::⟨some 4,.al [.int .i64 0,.int .u64 0],none⟩::[])) (.seq (.reg (⟨some 7,.fa 1 (.t 2),none⟩::⟨some 8,.ld 1 false (.t 7),none⟩::⟨some 9,.fa 1 (.t 3),none⟩::⟨some 10,.ld 1 false (.t 9),none⟩::⟨some 11,.bin .add (.t 8) (.t 10),none⟩::⟨some 5,.mv (.t 11),none⟩::[])) (.seq (.reg (⟨some 12,.fa 0 (.t 2),none⟩::⟨some 13,.ld 1 false (.t 12),none⟩::⟨some 14,.fa 0 (.t 3),none⟩::⟨some 15,.ld 1 false (.t 14),none⟩::⟨some 16,.bin .add (.t 13) (.t 15),none⟩::⟨some 6,.mv (.t 16),none⟩::[])) (.seq (.seq (.reg (⟨some 17,.mv (.t 5),none⟩::⟨some 18,.fa 1 (.t 2),none⟩::⟨some 19,.ld 1 false (.t 18),none⟩::⟨some 20,.bin .lss (.t 17) (.t 19),none⟩::[])) (.cond (.t 20) (.reg (⟨some 21,.mv (.t 6),none⟩::⟨some 22,.bin .add (.t 21) (.c (.int .i64 1)),none⟩::⟨some 6,.mv (.t 22),none⟩::[])) .skip)) (.seq (.reg (⟨some 23,.mv (.t 6),none⟩::⟨some 24,.mv (.t 5),none⟩::⟨some 25,.bld [.int .i64 0,.int .u64 0] [(0,1,(.t 23)),(1,1,(.t 24))],none⟩::⟨none,.st 2 (.t 4) (.t 25),none⟩::[])) .ret)))))
theorem cd_fretworkref01_Add : Code1 Tryz.prog 141 26 ir_fretworkref01_Add [.c 2 true 4]:=⟨Tryz.call141,_,_,Tryz.func141,rfl,by kernel_rfl,by kernel_rfl,by kernel_rfl,by kernel_rfl⟩
theorem fs_r1Add (x y : Int) : FS Tryz.prog 141 [WN x,WN y] (WN (x + y)):=by
  refine fs_of_cvc mixed cd_fretworkref01_Add (by simp) ?_
  have e1:=add_lo x y
  repeat' (conv=>whnf); first |(refine ⟨lo (x + y),Or.inr e1.symm,?_⟩) |(refine ⟨_,Or.inr (w64 _).symm,?_⟩) |(refine Br.dec (fun h=>?_) (fun h=>?_)) <;> try (exfalso; omega) | refine And.intro rfl ?_ |(refine And.intro (by simp only [lens_all]; first | done | omega) ?_) |(refine And.intro (Nat.le_refl _) ?_) | fail
  . show SV.agg [.int .i64 (wrap64 (wrap64 (hi x + hi y) + 1)),.int .u64 (lo (x + y))] = WN _
    exact wn_eq (add_hi2 x y h) rfl
  . show SV.agg [.int .i64 (wrap64 (hi x + hi y)),.int .u64 (lo (x + y))] = WN _
    exact wn_eq (add_hi3 x y h) rfl
def ir_fretworkref01_Compare : IR :=
(.seq (.reg (⟨some 2,.bx (.t 0),none⟩::⟨some 3,.bx (.t 1),none⟩::⟨some 4,.mv (.c (.int .i64 0)),none⟩::[])) (.seq (.seq (.reg (⟨some 5,.fa 0 (.t 2),none⟩::⟨some 6,.ld 1 false (.t 5),none⟩::⟨some 7,.fa 0 (.t 3),none⟩::⟨some 8,.ld 1 false (.t 7),none⟩::⟨some 9,.bin .lss (.t 6) (.t 8),none⟩::⟨some 10,.mv (.t 9),none⟩::⟨some 11,.fa 0 (.t 2),some (10,false)⟩::⟨some 12,.ld 1 false (.t 11),some (10,false)⟩::⟨some 13,.fa 0 (.t 3),some (10,false)⟩::⟨some 14,.ld 1 false (.t 13),some (10,false)⟩::⟨some 15,.bin .eql (.t 12) (.t 14),some (10,false)⟩::⟨some 16,.mv (.t 15),some (10,false)⟩::⟨some 17,.fa 1 (.t 2),some (16,true)⟩::⟨some 18,.ld 1 false (.t 17),some (16,true)⟩::⟨some 19,.fa 1 (.t 3),some (16,true)⟩::⟨some 20,.ld 1 false (.t 19),some (16,true)⟩::⟨some 21,.bin .lss (.t 18) (.t 20),some (16,true)⟩::⟨some 22,.pick (.t 16) (.t 21) (.c (.bool false)),some (10,false)⟩::⟨some 23,.pick (.t 10) (.c (.bool true)) (.t 22),none⟩::[])) (.cond (.t 23) (.seq (.reg (⟨some 4,.mv (.c (.int .i64 (-1))),none⟩::[])) .ret) .skip)) (.seq (.seq (.reg (⟨some 24,.ld 2 true (.t 2),none⟩::⟨some 25,.ld 2 true (.t 3),none⟩::⟨some 26,.eqv false 93 (.t 24) (.t 25),none⟩::[])) (.cond (.t 26) (.seq (.reg (⟨some 4,.mv (.c (.int .i64 0)),none⟩::[])) .ret) .skip)) (.seq (.reg (⟨some 4,.mv (.c (.int .i64 1)),none⟩::[])) .ret))))
theorem cd_fretworkref01_Compare : Code1 Tryz.prog 139 27 ir_fretworkref01_Compare [.t 4]:=⟨Tryz.call139,_,_,Tryz.func139,rfl,by kernel_rfl,by kernel_rfl,by kernel_rfl,by kernel_rfl⟩
theorem fs_r1Compare (x y : Int) (hx : W128 x) (hy : W128 y) : FS Tryz.prog 139 [WN x,WN y] (.int .i64 (sgn3 x y)):=by
  refine fs_of_cvc mixed cd_fretworkref01_Compare (by simp) ?_
  have he:=eqw false hx hy
  have hs:=sgn_halves x y hx hy
  repeat' (conv=>whnf); first |(refine ⟨_,he,?_⟩) | refine Br.tt ?_ | refine Br.ff ?_ |(refine Br.dec (fun h=>?_) (fun h=>?_)) <;> try (exfalso; omega) | refine And.intro rfl ?_ |(refine And.intro (by simp only [lens_all]; first | done | omega) ?_) | fail
  all_goals
    show SV.int .i64 _ = SV.int .i64 _
    congr 1
    rw [<- hs]
  . simp [or2,sgn3, *]
  . simp [or2,sgn3, *]
  . subst h; simp [or2,sgn3]
  . rename_i h1 h2 h3
    have : lo y < lo x:=by
      rcases Int.lt_trichotomy (lo x) (lo y) with h4 | h4 | h4
      . exact absurd h4 h3
      . exact absurd (eq_of_halves hx hy h2 h4) h
      . exact h4
    simp [or2,sgn3, *]
  . subst h; exact absurd rfl (by assumption)
  . rename_i h1 h2
    have : hi y < hi x:=by omega
    simp [or2,sgn3, *]
def ir_fretworkref01_Narrow : IR :=
(.seq (.reg (⟨some 1,.bx (.t 0),none⟩::⟨some 2,.mv (.c (.int .i64 0)),none⟩::⟨some 3,.mv (.c (.bool false)),none⟩::[])) (.seq (.reg (⟨some 5,.fa 1 (.t 1),none⟩::⟨some 6,.ld 1 false (.t 5),none⟩::⟨some 7,.cv .i64 (.t 6),none⟩::⟨some 4,.mv (.t 7),none⟩::[])) (.seq (.seq (.reg (⟨some 8,.fa 0 (.t 1),none⟩::⟨some 9,.ld 1 false (.t 8),none⟩::⟨some 10,.bin .eql (.t 9) (.c (.int .i64 0)),none⟩::⟨some 11,.mv (.t 10),none⟩::⟨some 12,.mv (.t 4),some (11,true)⟩::⟨some 13,.bin .geq (.t 12) (.c (.int .i64 0)),some (11,true)⟩::⟨some 14,.pick (.t 11) (.t 13) (.c (.bool false)),none⟩::⟨some 15,.mv (.t 14),none⟩::⟨some 16,.fa 0 (.t 1),some (15,false)⟩::⟨some 17,.ld 1 false (.t 16),some (15,false)⟩::⟨some 18,.bin .eql (.t 17) (.c (.int .i64 (-1))),some (15,false)⟩::⟨some 19,.mv (.t 18),some (15,false)⟩::⟨some 20,.mv (.t 4),some (19,true)⟩::⟨some 21,.bin .lss (.t 20) (.c (.int .i64 0)),some (19,true)⟩::⟨some 22,.pick (.t 19) (.t 21) (.c (.bool false)),some (15,false)⟩::⟨some 23,.pick (.t 15) (.c (.bool true)) (.t 22),none⟩::[])) (.cond (.t 23) (.seq (.reg (⟨some 24,.mv (.t 4),none⟩::⟨some 2,.mv (.t 24),none⟩::⟨some 3,.mv (.c (.bool true)),none⟩::[])) .ret) .skip)) (.seq (.reg (⟨some 2,.mv (.c (.int .i64 0)),none⟩::⟨some 3,.mv (.c (.bool false)),none⟩::[])) .ret))))
theorem cd_fretworkref01_Narrow : Code1 Tryz.prog 108 25 ir_fretworkref01_Narrow [.t 2,.t 3]:=⟨Tryz.call108,_,_,Tryz.func108,rfl,by kernel_rfl,by kernel_rfl,by kernel_rfl,by kernel_rfl⟩
theorem fs_r1Narrow (x : Int) (hx : W128 x) : FS Tryz.prog 108 [WN x] (.tup [.int .i64 (nar x),.bool (fits x)]):=by
  refine fs_of_cvc mixed cd_fretworkref01_Narrow (by simp) ?_
  have hi0:=fits_iff x hx
  repeat' (conv=>whnf); first |(refine ⟨wrap64 (lo x),Or.inr (w64 _).symm,?_⟩) | refine Br.tt ?_ | refine Br.ff ?_ |(refine Br.dec (fun h=>?_) (fun h=>?_)) <;> try (exfalso; omega) | refine And.intro rfl ?_ | fail
  all_goals
    rw [low64] at *
    show SV.tup [.int .i64 _,.bool _] = _
  . have hf : fits x = true:=hi0.2 (.inl ⟨by assumption,h⟩)
    rw [hf,(fits_yes x hx hf).1]
  . have hf : fits x = false:=by rw [Bool.eq_false_iff]; intro hf; rcases hi0.1 hf with hh | hh <;> omega
    rw [hf,nar,hf]; rfl
  . have hf : fits x = true:=hi0.2 (.inr ⟨by assumption,h⟩)
    rw [hf,(fits_yes x hx hf).1]
  . have hf : fits x = false:=by rw [Bool.eq_false_iff]; intro hf; rcases hi0.1 hf with hh | hh <;> omega
    rw [hf,nar,hf]; rfl
  . have hf : fits x = false:=by rw [Bool.eq_false_iff]; intro hf; rcases hi0.1 hf with hh | hh <;> omega
    rw [hf,nar,hf]; rfl
end
section
open Go.RowKit
attribute [local irreducible] FS FO IT HS
def ir_fretworkref02_Is : IR :=
(.seq (.reg (⟨some 2,.mv (.c (.bool false)),none⟩::[])) (.seq (.reg (⟨some 3,.mv (.t 0),none⟩::⟨some 4,.bin .geq (.t 3) (.c (.int .i64 1)),none⟩::⟨some 5,.mv (.t 4),none⟩::⟨some 6,.mv (.t 0),some (5,true)⟩::⟨some 7,.bin .leq (.t 6) (.c (.int .i64 5)),some (5,true)⟩::⟨some 8,.pick (.t 5) (.t 7) (.c (.bool false)),none⟩::⟨some 2,.mv (.t 8),none⟩::[])) .ret))
theorem cd_fretworkref02_Is : Code1 Tryz.prog 73 9 ir_fretworkref02_Is [.t 2]:=⟨Tryz.call73,_,_,Tryz.func73,rfl,by kernel_rfl,by kernel_rfl,by kernel_rfl,by kernel_rfl⟩
theorem fs_r2Is (r : Int) : FS Tryz.prog 73 [.int .i64 r] (.bool (isR r)):=by
  refine fs_of_cvc mixed cd_fretworkref02_Is (by simp) ?_
  repeat' (conv=>whnf); first | refine Br.tt ?_ | refine Br.ff ?_ |(refine Br.dec (fun h=>?_) (fun h=>?_)) <;> try (exfalso; omega) | refine And.intro rfl ?_ | fail
  all_goals (show SV.bool _ = SV.bool _; congr 1; unfold isR; rw [Bool.eq_iff_iff]; simp; omega)
def ir_fretworkref02_truth : IR :=
(.seq (.reg (⟨some 2,.al [.int .i64 0,.int .u64 0],none⟩::[])) (.seq (.seq (.reg (⟨some 3,.mv (.t 0),none⟩::[])) (.cond (.t 3) (.seq (.reg (⟨some 4,.bld [.int .i64 0,.int .u64 0] [(1,1,(.c (.int .u64 1)))],none⟩::⟨none,.st 2 (.t 2) (.t 4),none⟩::[])) .ret) .skip)) (.seq (.reg (⟨some 5,.bld [.int .i64 0,.int .u64 0] [],none⟩::⟨none,.st 2 (.t 2) (.t 5),none⟩::[])) .ret)))
theorem cd_fretworkref02_truth : Code1 Tryz.prog 140 6 ir_fretworkref02_truth [.c 2 true 2]:=⟨Tryz.call140,_,_,Tryz.func140,rfl,by kernel_rfl,by kernel_rfl,by kernel_rfl,by kernel_rfl⟩
theorem fs_r2truth (b : Bool) : FS Tryz.prog 140 [.bool b] (WN (tru b)):=by
  refine fs_of_cvc mixed cd_fretworkref02_truth (by simp) ?_
  repeat' (conv=>whnf); first |(refine Br.mk (fun h=>?_) (fun h=>?_)) | refine And.intro rfl ?_ |(refine And.intro (by simp only [lens_all]; first | done | omega) ?_) | fail
  . subst h
    exact wn_one
  . subst h
    exact wn_zero
def ir_fretworkref02_Add : IR :=
(.seq (.reg (⟨some 4,.bx (.t 1),none⟩::⟨some 5,.bx (.t 2),none⟩::⟨some 6,.al [.int .i64 0,.int .u64 0],none⟩::[])) (.seq (.reg (⟨some 7,.mv (.t 0),none⟩::[])) (.block 0 (.seq (.seq (.reg (⟨some 10,.bin .eql (.t 7) (.c (.int .i64 1)),none⟩::⟨some 9,.mv (.t 10),none⟩::[])) (.cond (.t 9) .skip (.seq (.reg (⟨some 11,.bin .eql (.t 7) (.c (.int .i64 3)),none⟩::⟨some 9,.mv (.t 11),none⟩::[])) (.cond (.t 9) .skip (.reg (⟨some 12,.bin .eql (.t 7) (.c (.int .i64 4)),none⟩::⟨some 9,.mv (.t 12),none⟩::[])))))) (.cond (.t 9) (.seq (.seq (.reg (⟨some 13,.ld 2 true (.t 5),none⟩::⟨some 14,.ld 2 true (.t 4),none⟩::⟨some 15,.call (.c (.fn 139 [])) [(.t 13),(.t 14)],none⟩::⟨some 16,.bin .lss (.t 15) (.c (.int .i64 0)),none⟩::[])) (.cond (.t 16) (.seq (.reg (⟨some 17,.ld 2 true (.t 5),none⟩::⟨none,.st 2 (.t 6) (.t 17),none⟩::[])) .ret) .skip)) (.seq (.reg (⟨some 18,.ld 2 true (.t 4),none⟩::⟨none,.st 2 (.t 6) (.t 18),none⟩::[])) .ret)) (.seq (.reg (⟨some 20,.bin .eql (.t 7) (.c (.int .i64 2)),none⟩::⟨some 19,.mv (.t 20),none⟩::[])) (.cond (.t 19) (.seq (.reg (⟨some 21,.ld 2 true (.t 4),none⟩::⟨some 22,.bld [.int .i64 0,.int .u64 0] [],none⟩::⟨some 23,.eqv true 93 (.t 21) (.t 22),none⟩::⟨some 24,.mv (.t 23),none⟩::⟨some 25,.ld 2 true (.t 5),some (24,false)⟩::⟨some 26,.bld [.int .i64 0,.int .u64 0] [],some (24,false)⟩::⟨some 27,.eqv true 93 (.t 25) (.t 26),some (24,false)⟩::⟨some 28,.pick (.t 24) (.c (.bool true)) (.t 27),none⟩::⟨some 29,.call (.c (.fn 140 [])) [(.t 28)],none⟩::⟨none,.st 2 (.t 6) (.t 29),none⟩::[])) .ret) (.seq (.reg (⟨some 31,.bin .eql (.t 7) (.c (.int .i64 5)),none⟩::⟨some 30,.mv (.t 31),none⟩::[])) (.cond (.t 30) (.seq (.reg (⟨some 32,.ld 2 true (.t 4),none⟩::⟨some 33,.ld 2 true (.t 5),none⟩::⟨some 34,.call (.c (.fn 141 [])) [(.t 32),(.t 33)],none⟩::⟨none,.st 2 (.t 6) (.t 34),none⟩::[])) .ret) (.seq (.reg (⟨some 8,.bld [.int .i64 0,.int .u64 0] [],none⟩::⟨none,.st 2 (.t 6) (.t 8),none⟩::[])) .ret))))))))))
theorem cd_fretworkref02_Add : Code1 Tryz.prog 107 35 ir_fretworkref02_Add [.c 2 true 6]:=⟨Tryz.call107,_,_,Tryz.func107,rfl,by kernel_rfl,by kernel_rfl,by kernel_rfl,by kernel_rfl⟩
set_option maxHeartbeats 1000000 in
theorem fs_r2Add (r x y : Int) (hx : W128 x) (hy : W128 y) : FS Tryz.prog 107 [.int .i64 r,WN x,WN y] (WN (rAdd r x y)):=by
  refine fs_of_cvc mixed cd_fretworkref02_Add (by simp) ?_
  have ez : ∀ {x : Int},W128 x -> EqOk Tryz.prog true 93 [.int .i64 (hi x),.int .u64 (lo x)] [.int .i64 0,.int .u64 0] (decide (x ≠ 0)):=fun hx=>by
    have:=eqw true hx W0
    rwa [zero_hi,zero_lo] at this
  have e1:=ez hx
  have e2:=ez hy
  have lt : lt3 r = true -> rAdd r x y = if x <= y then x else y:=fun h=>if_pos h
  repeat' (conv=>whnf); first |(refine Or.inl ⟨by rfl,_,fs_r1Compare y x hy hx,?_⟩) |(refine ⟨_,e1,?_⟩) |(refine ⟨_,e2,?_⟩) |(refine Or.inl ⟨by rfl,_,fs_r2truth _,?_⟩) |(refine Or.inl ⟨by rfl,_,fs_r1Add x y,?_⟩) | refine Br.tt ?_ | refine Br.ff ?_ |(refine Br.dec (fun h=>?_) (fun h=>?_)) <;> try (exfalso; omega) | refine And.intro rfl ?_ |(refine And.intro (by simp only [lens_all]; first | done | omega) ?_) | fail
  . show WN y = WN _
    rw [lt (by simp [lt3, *]),if_neg]; unfold sgn3 at h; split at h <;> (try split at h) <;> omega
  . show WN x = WN _
    rw [lt (by simp [lt3, *]),if_pos]; unfold sgn3 at h; split at h <;> (try split at h) <;> omega
  . show WN y = WN _
    rw [lt (by simp [lt3, *]),if_neg]; unfold sgn3 at h; split at h <;> (try split at h) <;> omega
  . show WN x = WN _
    rw [lt (by simp [lt3, *]),if_pos]; unfold sgn3 at h; split at h <;> (try split at h) <;> omega
  . show WN y = WN _
    rw [lt (by simp [lt3, *]),if_neg]; unfold sgn3 at h; split at h <;> (try split at h) <;> omega
  . show WN x = WN _
    rw [lt (by simp [lt3, *]),if_pos]; unfold sgn3 at h; split at h <;> (try split at h) <;> omega
  . show WN (tru true) = WN _
    have h' : decide (x ≠ 0) = true:=decide_eq_true h
    rw [rAdd,if_neg (by simp [lt3, *]),if_pos (by assumption),h',Bool.true_or]
  . show WN (tru (decide (y ≠ 0))) = WN _
    have h' : decide (x ≠ 0) = false:=decide_eq_false h
    rw [rAdd,if_neg (by simp [lt3, *]),if_pos (by assumption),h',Bool.false_or]
  . show WN (x + y) = WN _
    rw [rAdd,if_neg (by simp [lt3, *]),if_neg (by assumption),if_pos (by assumption),WN_norm]
  . show SV.agg [.int .i64 0,.int .u64 0] = WN _
    rw [rAdd,if_neg (by simp [lt3, *]),if_neg (by assumption),if_neg (by assumption)]
    exact wn_zero
theorem rMul_1 (a x : Int) : rMul 1 a x = if 4611686018427387904 <= max a x then 4611686018427387904 else min 4611686018427387904 (a + x):=by simp [rMul,isR]
theorem rMul_3 (a x : Int) : rMul 3 a x = if 4611686018427387904 <= max a x then 4611686018427387904 else a:=by simp [rMul,isR]
theorem rMul_4 (a x : Int) : rMul 4 a x = if 4611686018427387904 <= max a x then 4611686018427387904 else min 4611686018427387904 x:=by simp [rMul,isR]
theorem rMul_2 (a x : Int) : rMul 2 a x = tru (decide (a ≠ 0) && decide (x ≠ 0)):=by simp [rMul]
theorem rMul_5 (a x : Int) : rMul 5 a x = a * x:=by simp [rMul]
end
end Go.Proofs.YtelbhbadkbcakaaGreat
