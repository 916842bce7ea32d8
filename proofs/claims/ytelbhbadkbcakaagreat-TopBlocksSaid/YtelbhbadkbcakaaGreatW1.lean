/- The program draws its orders. Wide numbers: the program's functions. Rings: the program's functions. -/
import Derived.Test.YtelbhbadkbcakaaGreatRows
import Derived.Test.YtelbhbadkbcakaaGreatS5
namespace Go.Proofs.YtelbhbadkbcakaaGreat
section
open Go.RowKit
theorem mixed : Tryz.prog.follows .mixedOrders = true:=by kernel_rfl
end
section
open Go.RowKit
attribute [local irreducible] FS FO IT HS
def WN (x : Int) : SV:=.agg [.int .i64 (hi x),.int .u64 (lo x)]
theorem w64 (x : Int) : IntKind.i64.wrap x = wrap64 x:=by rw [wrap_i64]; unfold wrap64; split <;> omega
theorem wn_eq {a b x : Int} (h1 : a = hi x) (h2 : b = lo x) : SV.agg [.int .i64 a,.int .u64 b] = WN x:=by rw [h1,h2]; rfl
def ir_wide_Of : IR :=
(.seq (.reg (⟨some 2,.al [.int .i64 0,.int .u64 0],none⟩::[])) (.seq (.reg (⟨some 3,.mv (.t 0),none⟩::⟨some 4,.bin .shr (.t 3) (.c (.int .u64 63)),none⟩::⟨some 5,.mv (.t 0),none⟩::⟨some 6,.cv .u64 (.t 5),none⟩::⟨some 7,.bld [.int .i64 0,.int .u64 0] [(0,1,(.t 4)),(1,1,(.t 6))],none⟩::⟨none,.st 2 (.t 2) (.t 7),none⟩::[])) .ret))
theorem cd_wide_Of : Code1 Tryz.prog 147 8 ir_wide_Of [.c 2 true 2]:=⟨Tryz.call147,_,_,Tryz.func147,rfl,by kernel_rfl,by kernel_rfl,by kernel_rfl,by kernel_rfl⟩
theorem fs_wOf (n : Int) (h : I64 n) : FS Tryz.prog 147 [.int .i64 n] (WN n):=by
  refine fs_of_cvc mixed cd_wide_Of (by simp) ?_
  repeat' (conv=>whnf); first |(refine ⟨_,Or.inr rfl,?_⟩) | refine And.intro rfl ?_ |(refine And.intro (by omega) ?_) |(refine And.intro (by simp only [lens_all]; first | done | omega) ?_) |(refine And.intro (Nat.le_refl _) ?_) | fail
  show SV.agg [SV.int .i64 _,SV.int .u64 _] = WN _
  refine wn_eq ?_ ?_
  . exact of_hi n h
  . exact of_lo n
def ir_wide_carry : IR :=
(.seq (.reg (⟨some 2,.mv (.c (.int .u64 0)),none⟩::[])) (.seq (.seq (.reg (⟨some 3,.mv (.t 0),none⟩::[])) (.cond (.t 3) (.seq (.reg (⟨some 2,.mv (.c (.int .u64 1)),none⟩::[])) .ret) .skip)) (.seq (.reg (⟨some 2,.mv (.c (.int .u64 0)),none⟩::[])) .ret)))
theorem cd_wide_carry : Code1 Tryz.prog 151 4 ir_wide_carry [.t 2]:=⟨Tryz.call151,_,_,Tryz.func151,rfl,by kernel_rfl,by kernel_rfl,by kernel_rfl,by kernel_rfl⟩
theorem fs_carry (b : Bool) : FS Tryz.prog 151 [.bool b] (.int .u64 (cy b)):=by
  refine fs_of_cvc mixed cd_wide_carry (by simp) ?_
  repeat' (conv=>whnf); first |(refine Br.mk (fun h=>?_) (fun h=>?_)) | fail
  . subst h; exact rfl
  . subst h; exact rfl
def ir_wide_Add : IR :=
(.seq (.reg (⟨some 2,.bx (.t 0),none⟩::⟨some 3,.bx (.t 1),none⟩::⟨some 4,.al [.int .i64 0,.int .u64 0],none⟩::[])) (.seq (.reg (⟨some 6,.fa 1 (.t 2),none⟩::⟨some 7,.ld 1 false (.t 6),none⟩::⟨some 8,.fa 1 (.t 3),none⟩::⟨some 9,.ld 1 false (.t 8),none⟩::⟨some 10,.bin .add (.t 7) (.t 9),none⟩::⟨some 5,.mv (.t 10),none⟩::[])) (.seq (.draw (⟨some 11,.fa 0 (.t 2),none⟩::⟨some 12,.ld 1 false (.t 11),none⟩::⟨some 13,.cv .u64 (.t 12),none⟩::⟨some 14,.fa 0 (.t 3),none⟩::⟨some 15,.ld 1 false (.t 14),none⟩::⟨some 16,.cv .u64 (.t 15),none⟩::⟨some 17,.bin .add (.t 13) (.t 16),none⟩::⟨some 18,.mv (.t 5),none⟩::⟨some 19,.fa 1 (.t 3),none⟩::⟨some 20,.ld 1 false (.t 19),none⟩::⟨some 21,.bin .lss (.t 18) (.t 20),none⟩::⟨some 22,.call (.c (.fn 151 [])) [(.t 21)],none⟩::⟨some 23,.bin .add (.t 17) (.t 22),none⟩::⟨some 24,.cv .i64 (.t 23),none⟩::⟨some 25,.mv (.t 5),none⟩::[]) (⟨some 26,.bld [.int .i64 0,.int .u64 0] [(0,1,(.t 24)),(1,1,(.t 25))],none⟩::⟨none,.st 2 (.t 4) (.t 26),none⟩::[])) .ret)))
theorem cd_wide_Add : Code1 Tryz.prog 122 27 ir_wide_Add [.c 2 true 4]:=⟨Tryz.call122,_,_,Tryz.func122,rfl,by kernel_rfl,by kernel_rfl,by kernel_rfl,by kernel_rfl⟩
theorem fs_wAdd (x y : Int) : FS Tryz.prog 122 [WN x,WN y] (WN (x + y)):=by
  refine fs_of_cvc mixed cd_wide_Add (by simp) ?_
  repeat' (conv=>whnf); first |(refine ⟨_,Or.inr rfl,?_⟩) |(refine Or.inl ⟨by rfl,_,fs_carry _,?_⟩) | refine And.intro rfl ?_ |(refine And.intro (by simp only [lens_all]; first | done | omega) ?_) |(refine And.intro (Nat.le_refl _) ?_) | fail
  show SV.agg [SV.int .i64 _,SV.int .u64 _] = WN _
  refine wn_eq ?_ ?_
  . have:=add_hi x y
    rw [<- add_lo] at this
    rw [w64]; exact this
  . exact add_lo x y
def ir_wide_Sub : IR :=
(.seq (.reg (⟨some 2,.bx (.t 0),none⟩::⟨some 3,.bx (.t 1),none⟩::⟨some 4,.al [.int .i64 0,.int .u64 0],none⟩::[])) (.seq (.draw (⟨some 5,.fa 0 (.t 2),none⟩::⟨some 6,.ld 1 false (.t 5),none⟩::⟨some 7,.cv .u64 (.t 6),none⟩::⟨some 8,.fa 0 (.t 3),none⟩::⟨some 9,.ld 1 false (.t 8),none⟩::⟨some 10,.cv .u64 (.t 9),none⟩::⟨some 11,.bin .sub (.t 7) (.t 10),none⟩::⟨some 12,.fa 1 (.t 2),none⟩::⟨some 13,.ld 1 false (.t 12),none⟩::⟨some 14,.fa 1 (.t 3),none⟩::⟨some 15,.ld 1 false (.t 14),none⟩::⟨some 16,.bin .lss (.t 13) (.t 15),none⟩::⟨some 17,.call (.c (.fn 151 [])) [(.t 16)],none⟩::⟨some 18,.bin .sub (.t 11) (.t 17),none⟩::⟨some 19,.cv .i64 (.t 18),none⟩::⟨some 20,.fa 1 (.t 2),none⟩::⟨some 21,.ld 1 false (.t 20),none⟩::⟨some 22,.fa 1 (.t 3),none⟩::⟨some 23,.ld 1 false (.t 22),none⟩::⟨some 24,.bin .sub (.t 21) (.t 23),none⟩::[]) (⟨some 25,.bld [.int .i64 0,.int .u64 0] [(0,1,(.t 19)),(1,1,(.t 24))],none⟩::⟨none,.st 2 (.t 4) (.t 25),none⟩::[])) .ret))
theorem cd_wide_Sub : Code1 Tryz.prog 163 26 ir_wide_Sub [.c 2 true 4]:=⟨Tryz.call163,_,_,Tryz.func163,rfl,by kernel_rfl,by kernel_rfl,by kernel_rfl,by kernel_rfl⟩
theorem fs_wSub (x y : Int) : FS Tryz.prog 163 [WN x,WN y] (WN (x - y)):=by
  refine fs_of_cvc mixed cd_wide_Sub (by simp) ?_
  repeat' (conv=>whnf); first |(refine ⟨_,Or.inr rfl,?_⟩) |(refine Or.inl ⟨by rfl,_,fs_carry _,?_⟩) | refine And.intro rfl ?_ |(refine And.intro (by simp only [lens_all]; first | done | omega) ?_) |(refine And.intro (Nat.le_refl _) ?_) | fail
  show SV.agg [SV.int .i64 _,SV.int .u64 _] = WN _
  refine wn_eq ?_ ?_
  . rw [w64]; exact sub_hi x y
  . exact sub_lo x y
def ir_wide_size : IR :=
(.seq (.reg (⟨some 2,.mv (.c (.int .u64 0)),none⟩::[])) (.seq (.seq (.reg (⟨some 3,.mv (.t 0),none⟩::⟨some 4,.bin .lss (.t 3) (.c (.int .i64 0)),none⟩::[])) (.cond (.t 4) (.seq (.reg (⟨some 5,.mv (.t 0),none⟩::⟨some 6,.cv .u64 (.t 5),none⟩::⟨some 7,.un .neg (.t 6),none⟩::⟨some 2,.mv (.t 7),none⟩::[])) .ret) .skip)) (.seq (.reg (⟨some 8,.mv (.t 0),none⟩::⟨some 9,.cv .u64 (.t 8),none⟩::⟨some 2,.mv (.t 9),none⟩::[])) .ret)))
theorem cd_wide_size : Code1 Tryz.prog 162 10 ir_wide_size [.t 2]:=⟨Tryz.call162,_,_,Tryz.func162,rfl,by kernel_rfl,by kernel_rfl,by kernel_rfl,by kernel_rfl⟩
theorem fs_size (n : Int) (hn : I64 n) : FS Tryz.prog 162 [.int .i64 n] (.int .u64 (mag n)):=by
  refine fs_of_cvc mixed cd_wide_size (by simp) ?_
  repeat' (conv=>whnf); first |(refine ⟨_,Or.inr rfl,?_⟩) |(refine Br.dec (fun h=>?_) (fun h=>?_)) <;> try (exfalso; omega) | refine And.intro rfl ?_ | fail
  all_goals
    show SV.int .u64 _ = SV.int .u64 _
    unfold I64 at hn
    congr 1
    unfold mag
  . rw [if_pos h]; simp only [wrap_u64]; omega
  . rw [if_neg h]; simp only [wrap_u64]; omega
def ir_wide_halves : IR :=
(.seq (.reg (⟨some 2,.al [.int .u64 0,.int .u64 0],none⟩::[])) (.seq (.reg (⟨some 3,.mv (.t 0),none⟩::⟨some 4,.bin .shl (.t 3) (.c (.int .u64 32)),none⟩::⟨some 5,.bin .shr (.t 4) (.c (.int .u64 32)),none⟩::⟨some 6,.mv (.t 0),none⟩::⟨some 7,.bin .shr (.t 6) (.c (.int .u64 32)),none⟩::⟨some 8,.bld [.int .u64 0,.int .u64 0] [(0,1,(.t 5)),(1,1,(.t 7))],none⟩::⟨none,.st 2 (.t 2) (.t 8),none⟩::[])) .ret))
theorem cd_wide_halves : Code1 Tryz.prog 168 9 ir_wide_halves [.c 2 true 2]:=⟨Tryz.call168,_,_,Tryz.func168,rfl,by kernel_rfl,by kernel_rfl,by kernel_rfl,by kernel_rfl⟩
theorem fs_halves (n : Int) (h : U64 n) : FS Tryz.prog 168 [.int .u64 n] (.agg [.int .u64 (hl n),.int .u64 (hh n)]):=by
  refine fs_of_cvc mixed cd_wide_halves (by simp) ?_
  repeat' (conv=>whnf); first |(refine ⟨_,Or.inr rfl,?_⟩) | refine And.intro rfl ?_ |(refine And.intro (by omega) ?_) |(refine And.intro (by simp only [lens_all]; first | done | omega) ?_) |(refine And.intro (Nat.le_refl _) ?_) | fail
  show SV.agg [SV.int .u64 _,SV.int .u64 _] = SV.agg [SV.int .u64 _,SV.int .u64 _]
  have h':=h
  unfold U64 at h'
  have e1 : (2 : Int) ^ (min (32 : Int).toNat IntKind.u64.bits) = 4294967296:=rfl
  have h1 : IntKind.u64.wrap (n * 2 ^ (min (32 : Int).toNat IntKind.u64.bits)) / 2 ^ (min (32 : Int).toNat IntKind.u64.bits) = hl n:=by
    rw [e1,wrap_u64]; unfold hl; omega
  have h2 : n / 2 ^ (min (32 : Int).toNat IntKind.u64.bits) = hh n:=by rw [e1]; rfl
  rw [h1,h2]
def ir_wide_product : IR :=
(.seq (.reg (⟨some 4,.al [.int .i64 0,.int .u64 0],none⟩::[])) (.seq (.reg (⟨some 10,.mv (.t 0),none⟩::⟨some 11,.call (.c (.fn 168 [])) [(.t 10)],none⟩::⟨some 12,.mv (.t 1),none⟩::⟨some 13,.call (.c (.fn 168 [])) [(.t 12)],none⟩::⟨some 5,.al [.int .u64 0,.int .u64 0],none⟩::⟨some 6,.al [.int .u64 0,.int .u64 0],none⟩::⟨none,.st 2 (.t 5) (.t 11),none⟩::⟨none,.st 2 (.t 6) (.t 13),none⟩::[])) (.seq (.reg (⟨some 14,.iaA 2 1 (.t 5) (.c (.int .i64 0)),none⟩::⟨some 15,.ld 1 false (.t 14),none⟩::⟨some 16,.iaA 2 1 (.t 6) (.c (.int .i64 0)),none⟩::⟨some 17,.ld 1 false (.t 16),none⟩::⟨some 18,.bin .mul (.t 15) (.t 17),none⟩::⟨some 7,.mv (.t 18),none⟩::[])) (.seq (.draw (⟨some 19,.iaA 2 1 (.t 5) (.c (.int .i64 1)),none⟩::⟨some 20,.ld 1 false (.t 19),none⟩::⟨some 21,.iaA 2 1 (.t 6) (.c (.int .i64 0)),none⟩::⟨some 22,.ld 1 false (.t 21),none⟩::⟨some 23,.bin .mul (.t 20) (.t 22),none⟩::⟨some 24,.mv (.t 7),none⟩::⟨some 25,.call (.c (.fn 168 [])) [(.t 24)],none⟩::⟨some 26,.ix 2 1 false (.t 25) (.c (.int .i64 1)),none⟩::⟨some 27,.bin .add (.t 23) (.t 26),none⟩::⟨some 28,.call (.c (.fn 168 [])) [(.t 27)],none⟩::⟨some 8,.al [.int .u64 0,.int .u64 0],none⟩::[]) (⟨none,.st 2 (.t 8) (.t 28),none⟩::[])) (.seq (.reg (⟨some 29,.iaA 2 1 (.t 5) (.c (.int .i64 0)),none⟩::⟨some 30,.ld 1 false (.t 29),none⟩::⟨some 31,.iaA 2 1 (.t 6) (.c (.int .i64 1)),none⟩::⟨some 32,.ld 1 false (.t 31),none⟩::⟨some 33,.bin .mul (.t 30) (.t 32),none⟩::⟨some 34,.iaA 2 1 (.t 8) (.c (.int .i64 0)),none⟩::⟨some 35,.ld 1 false (.t 34),none⟩::⟨some 36,.bin .add (.t 33) (.t 35),none⟩::⟨some 37,.call (.c (.fn 168 [])) [(.t 36)],none⟩::⟨some 9,.al [.int .u64 0,.int .u64 0],none⟩::⟨none,.st 2 (.t 9) (.t 37),none⟩::[])) (.seq (.draw (⟨some 38,.iaA 2 1 (.t 5) (.c (.int .i64 1)),none⟩::⟨some 39,.ld 1 false (.t 38),none⟩::⟨some 40,.iaA 2 1 (.t 6) (.c (.int .i64 1)),none⟩::⟨some 41,.ld 1 false (.t 40),none⟩::⟨some 42,.bin .mul (.t 39) (.t 41),none⟩::⟨some 43,.iaA 2 1 (.t 8) (.c (.int .i64 1)),none⟩::⟨some 44,.ld 1 false (.t 43),none⟩::⟨some 45,.bin .add (.t 42) (.t 44),none⟩::⟨some 46,.iaA 2 1 (.t 9) (.c (.int .i64 1)),none⟩::⟨some 47,.ld 1 false (.t 46),none⟩::⟨some 48,.bin .add (.t 45) (.t 47),none⟩::⟨some 49,.cv .i64 (.t 48),none⟩::⟨some 50,.iaA 2 1 (.t 9) (.c (.int .i64 0)),none⟩::⟨some 51,.ld 1 false (.t 50),none⟩::⟨some 52,.bin .shl (.t 51) (.c (.int .u64 32)),none⟩::⟨some 53,.mv (.t 7),none⟩::⟨some 54,.call (.c (.fn 168 [])) [(.t 53)],none⟩::⟨some 55,.ix 2 1 false (.t 54) (.c (.int .i64 0)),none⟩::⟨some 56,.bin .or (.t 52) (.t 55),none⟩::[]) (⟨some 57,.bld [.int .i64 0,.int .u64 0] [(0,1,(.t 49)),(1,1,(.t 56))],none⟩::⟨none,.st 2 (.t 4) (.t 57),none⟩::[])) .ret))))))
theorem cd_wide_product : Code1 Tryz.prog 161 58 ir_wide_product [.c 2 true 4]:=⟨Tryz.call161,_,_,Tryz.func161,rfl,by kernel_rfl,by kernel_rfl,by kernel_rfl,by kernel_rfl⟩
set_option maxHeartbeats 2000000 in
theorem fs_product (a b : Int) (ha : U64 a) (hb : U64 b) : FS Tryz.prog 161 [.int .u64 a,.int .u64 b] (WN (a * b)):=by
  refine fs_of_cvc mixed cd_wide_product (by simp) ?_
  have h1:=hl_bd a
  have h2:=hl_bd b
  have h3:=hh_bd a ha
  have h4:=hh_bd b hb
  have p00:=mul_bd (hl a) (hl b) 4294967295 4294967295 h1.1 h2.1 h1.2 h2.2
  have p10:=mul_bd (hh a) (hl b) 4294967295 4294967295 h3.1 h2.1 h3.2 h2.2
  have p01:=mul_bd (hl a) (hh b) 4294967295 4294967295 h1.1 h4.1 h1.2 h4.2
  have p11:=mul_bd (hh a) (hh b) 4294967295 4294967295 h3.1 h4.1 h3.2 h4.2
  have e00 : 4294967295 * 4294967295 = (18446744065119617025 : Int):=rfl
  rw [e00] at p00 p10 p01 p11
  have hm:=mul_split a b
  have u1:=hh_bd (hl a * hl b) (by unfold U64; omega)
  have v1:=hl_bd (hl a * hl b)
  have u2:=hh_bd (hh a * hl b + hh (hl a * hl b)) (by unfold U64; omega)
  have v2:=hl_bd (hh a * hl b + hh (hl a * hl b))
  have u3:=hh_bd (hl a * hh b + hl (hh a * hl b + hh (hl a * hl b))) (by unfold U64; omega)
  have v3:=hl_bd (hl a * hh b + hl (hh a * hl b + hh (hl a * hl b)))
  have hp:=prod_eq (hl a * hl b) (hh a * hl b) (hl a * hh b) (hh a * hh b) p00 p10 p01 p11
  have ho:=or_hl (hl a * hh b + hl (hh a * hl b + hh (hl a * hl b))) (hl a * hl b)
  repeat' (conv=>whnf); first |(refine Or.inl ⟨by rfl,_,fs_halves a ha,?_⟩) |(refine Or.inl ⟨by rfl,_,fs_halves b hb,?_⟩) |((refine Or.inl ⟨by rfl,_,fs_halves (hl a * hl b) (by unfold U64; omega),?_⟩)) |((refine Or.inl ⟨by rfl,_,fs_halves (hh a * hl b + hh (hl a * hl b)) (by unfold U64; omega),?_⟩)) |((refine Or.inl ⟨by rfl,_,fs_halves (hl a * hh b + hl (hh a * hl b + hh (hl a * hl b))) (by unfold U64; omega),?_⟩)) | refine And.intro rfl ?_ |(refine And.intro (by omega) ?_) |(refine ⟨_,Or.inl ⟨⟨by omega,by omega⟩,rfl⟩,?_⟩) |(refine And.intro (by simp only [lens_all]; first | done | omega) ?_) | fail
  repeat' (conv=>whnf); first |(refine ⟨_,Or.inr rfl,?_⟩) |((refine Or.inl ⟨by rfl,_,fs_halves (hl a * hl b) (by unfold U64; omega),?_⟩)) | refine And.intro rfl ?_ |(refine And.intro (by omega) ?_) |(refine And.intro (by simp only [lens_all]; first | done | omega) ?_) |(refine And.intro (Nat.le_refl _) ?_) | fail
  show SV.agg [SV.int .i64 _,SV.int .u64 _] = WN _
  rw [hm]
  refine wn_eq ?_ ?_
  . rw [w64,<- hp.1,wrap_u64_id (x:=hh a * hh b + hh (hh a * hl b + hh (hl a * hl b))) (by omega) (by omega),wrap_u64_id (by omega) (by omega)]
  . rw [<- hp.2,<- ho]
    rfl
def ir_wide_Mul : IR :=
(.seq (.reg (⟨some 4,.al [.int .i64 0,.int .u64 0],none⟩::[])) (.seq (.reg (⟨some 6,.mv (.t 0),none⟩::⟨some 7,.call (.c (.fn 162 [])) [(.t 6)],none⟩::⟨some 8,.mv (.t 1),none⟩::⟨some 9,.call (.c (.fn 162 [])) [(.t 8)],none⟩::⟨some 10,.call (.c (.fn 161 [])) [(.t 7),(.t 9)],none⟩::⟨some 5,.al [.int .i64 0,.int .u64 0],none⟩::⟨none,.st 2 (.t 5) (.t 10),none⟩::[])) (.seq (.seq (.reg (⟨some 11,.mv (.t 0),none⟩::⟨some 12,.bin .lss (.t 11) (.c (.int .i64 0)),none⟩::⟨some 13,.mv (.t 1),none⟩::⟨some 14,.bin .lss (.t 13) (.c (.int .i64 0)),none⟩::⟨some 15,.beq true (.t 12) (.t 14),none⟩::[])) (.cond (.t 15) (.seq (.reg (⟨some 16,.bld [.int .i64 0,.int .u64 0] [],none⟩::⟨some 17,.ld 2 true (.t 5),none⟩::⟨some 18,.call (.c (.fn 163 [])) [(.t 16),(.t 17)],none⟩::⟨none,.st 2 (.t 4) (.t 18),none⟩::[])) .ret) .skip)) (.seq (.reg (⟨some 19,.ld 2 true (.t 5),none⟩::⟨none,.st 2 (.t 4) (.t 19),none⟩::[])) .ret))))
theorem cd_wide_Mul : Code1 Tryz.prog 146 20 ir_wide_Mul [.c 2 true 4]:=⟨Tryz.call146,_,_,Tryz.func146,rfl,by kernel_rfl,by kernel_rfl,by kernel_rfl,by kernel_rfl⟩
theorem fs_wMul (a b : Int) (ha : I64 a) (hb : I64 b) : FS Tryz.prog 146 [.int .i64 a,.int .i64 b] (WN (a * b)):=by
  refine fs_of_cvc mixed cd_wide_Mul (by simp) ?_
  have ma:=mag_bd a ha
  have mb:=mag_bd b hb
  have cp:=fs_product (mag a) (mag b) (by unfold U64; omega) (by unfold U64; omega)
  have cs : FS Tryz.prog 163 [.agg [.int .i64 0,.int .u64 0],WN (mag a * mag b)] (WN (0 - mag a * mag b)):=by
    have:=fs_wSub 0 (mag a * mag b)
    unfold WN at this ⊢
    rwa [zero_hi,zero_lo] at this
  have em : (a < 0 ↔ b < 0) -> mag a * mag b = a * b:=fun h=>by
    unfold mag
    by_cases h1 : a < 0
    . rw [if_pos h1,if_pos (h.1 h1),Int.neg_mul_neg]
    . rw [if_neg h1,if_neg (fun h2=>h1 (h.2 h2))]
  have en : ¬ (a < 0 ↔ b < 0) -> 0 - mag a * mag b = a * b:=fun h=>by
    unfold mag
    by_cases h1 : a < 0
    . rw [if_pos h1,if_neg (fun h2=>h ⟨fun _=>h2,fun _=>h1⟩),Int.neg_mul]; omega
    . by_cases h2 : b < 0
      . rw [if_neg h1,if_pos h2,Int.mul_neg]; omega
      . exact absurd ⟨fun h=>absurd h h1,fun h=>absurd h h2⟩ h
  repeat' (conv=>whnf); first |(refine Or.inl ⟨by rfl,_,fs_size a ha,?_⟩) |(refine Or.inl ⟨by rfl,_,fs_size b hb,?_⟩) |(refine Or.inl ⟨by rfl,_,cp,?_⟩) |(refine Or.inl ⟨by rfl,_,cs,?_⟩) |(refine Br.dec (fun h=>?_) (fun h=>?_)) <;> try (exfalso; omega) | refine Br.neg ?_ | refine And.intro rfl ?_ |(refine And.intro (by simp only [lens_all]; first | done | omega) ?_) | fail
  . show WN (mag a * mag b) = WN (a * b)
    rw [em (by rw [<- decide_eq_decide]; exact h)]
  . show WN (0 - mag a * mag b) = WN (a * b)
    rw [en (by rw [<- decide_eq_decide]; exact h)]
def ir_cmp_isNaN_int64 : IR :=
(.seq
 (.reg (⟨some 2,.mv (.c (.bool false)),none⟩ ::
   []))
 (.seq
  (.reg (⟨some 3,.mv (.t 0),none⟩ ::
    ⟨some 4,.mv (.t 0),none⟩ ::
    ⟨some 5,.bin .neq (.t 3) (.t 4),none⟩ ::
    ⟨some 2,.mv (.t 5),none⟩ ::
    []))
  .ret))
theorem cd_cmp_isNaN_int64 : Code1 Tryz.prog 169 6 ir_cmp_isNaN_int64 [.t 2]:=⟨Tryz.call169,_,_,Tryz.func169,rfl,by kernel_rfl,by kernel_rfl,by kernel_rfl,by kernel_rfl⟩
def ir_cmp_isNaN_uint64 : IR :=
(.seq (.reg (⟨some 2,.mv (.c (.bool false)),none⟩::[])) (.seq (.reg (⟨some 3,.mv (.t 0),none⟩::⟨some 4,.mv (.t 0),none⟩::⟨some 5,.bin .neq (.t 3) (.t 4),none⟩::⟨some 2,.mv (.t 5),none⟩::[])) .ret))
theorem cd_cmp_isNaN_uint64 : Code1 Tryz.prog 170 6 ir_cmp_isNaN_uint64 [.t 2]:=⟨Tryz.call170,_,_,Tryz.func170,rfl,by kernel_rfl,by kernel_rfl,by kernel_rfl,by kernel_rfl⟩
def ir_cmp_Compare_int64 : IR :=
(.seq (.reg (⟨some 4,.mv (.c (.int .i64 0)),none⟩::[])) (.seq (.reg (⟨some 7,.mv (.t 0),none⟩::⟨some 8,.call (.c (.fn 169 [])) [(.t 7)],none⟩::⟨some 5,.mv (.t 8),none⟩::[])) (.seq (.reg (⟨some 9,.mv (.t 1),none⟩::⟨some 10,.call (.c (.fn 169 [])) [(.t 9)],none⟩::⟨some 6,.mv (.t 10),none⟩::[])) (.seq (.seq (.reg (⟨some 11,.mv (.t 5),none⟩::[])) (.cond (.t 11) (.seq (.seq (.reg (⟨some 12,.mv (.t 6),none⟩::[])) (.cond (.t 12) (.seq (.reg (⟨some 4,.mv (.c (.int .i64 0)),none⟩::[])) .ret) .skip)) (.seq (.reg (⟨some 4,.mv (.c (.int .i64 (-1))),none⟩::[])) .ret)) .skip)) (.seq (.seq (.reg (⟨some 13,.mv (.t 6),none⟩::[])) (.cond (.t 13) (.seq (.reg (⟨some 4,.mv (.c (.int .i64 1)),none⟩::[])) .ret) .skip)) (.seq (.seq (.reg (⟨some 14,.mv (.t 0),none⟩::⟨some 15,.mv (.t 1),none⟩::⟨some 16,.bin .lss (.t 14) (.t 15),none⟩::[])) (.cond (.t 16) (.seq (.reg (⟨some 4,.mv (.c (.int .i64 (-1))),none⟩::[])) .ret) .skip)) (.seq (.seq (.reg (⟨some 17,.mv (.t 0),none⟩::⟨some 18,.mv (.t 1),none⟩::⟨some 19,.bin .gtr (.t 17) (.t 18),none⟩::[])) (.cond (.t 19) (.seq (.reg (⟨some 4,.mv (.c (.int .i64 1)),none⟩::[])) .ret) .skip)) (.seq (.reg (⟨some 4,.mv (.c (.int .i64 0)),none⟩::[])) .ret))))))))
theorem cd_cmp_Compare_int64 : Code1 Tryz.prog 164 20 ir_cmp_Compare_int64 [.t 4]:=⟨Tryz.call164,_,_,Tryz.func164,rfl,by kernel_rfl,by kernel_rfl,by kernel_rfl,by kernel_rfl⟩
def ir_cmp_Compare_uint64 : IR :=
(.seq (.reg (⟨some 4,.mv (.c (.int .i64 0)),none⟩::[])) (.seq (.reg (⟨some 7,.mv (.t 0),none⟩::⟨some 8,.call (.c (.fn 170 [])) [(.t 7)],none⟩::⟨some 5,.mv (.t 8),none⟩::[])) (.seq (.reg (⟨some 9,.mv (.t 1),none⟩::⟨some 10,.call (.c (.fn 170 [])) [(.t 9)],none⟩::⟨some 6,.mv (.t 10),none⟩::[])) (.seq (.seq (.reg (⟨some 11,.mv (.t 5),none⟩::[])) (.cond (.t 11) (.seq (.seq (.reg (⟨some 12,.mv (.t 6),none⟩::[])) (.cond (.t 12) (.seq (.reg (⟨some 4,.mv (.c (.int .i64 0)),none⟩::[])) .ret) .skip)) (.seq (.reg (⟨some 4,.mv (.c (.int .i64 (-1))),none⟩::[])) .ret)) .skip)) (.seq (.seq (.reg (⟨some 13,.mv (.t 6),none⟩::[])) (.cond (.t 13) (.seq (.reg (⟨some 4,.mv (.c (.int .i64 1)),none⟩::[])) .ret) .skip)) (.seq (.seq (.reg (⟨some 14,.mv (.t 0),none⟩::⟨some 15,.mv (.t 1),none⟩::⟨some 16,.bin .lss (.t 14) (.t 15),none⟩::[])) (.cond (.t 16) (.seq (.reg (⟨some 4,.mv (.c (.int .i64 (-1))),none⟩::[])) .ret) .skip)) (.seq (.seq (.reg (⟨some 17,.mv (.t 0),none⟩::⟨some 18,.mv (.t 1),none⟩::⟨some 19,.bin .gtr (.t 17) (.t 18),none⟩::[])) (.cond (.t 19) (.seq (.reg (⟨some 4,.mv (.c (.int .i64 1)),none⟩::[])) .ret) .skip)) (.seq (.reg (⟨some 4,.mv (.c (.int .i64 0)),none⟩::[])) .ret))))))))
theorem cd_cmp_Compare_uint64 : Code1 Tryz.prog 165 20 ir_cmp_Compare_uint64 [.t 4]:=⟨Tryz.call165,_,_,Tryz.func165,rfl,by kernel_rfl,by kernel_rfl,by kernel_rfl,by kernel_rfl⟩
def ir_cmp_Or_int : IR :=
(.seq (.reg (⟨some 2,.mv (.c (.int .i64 0)),none⟩::[])) (.seq (.reg (⟨some 3,.mv (.c (.int .i64 0)),none⟩::[])) (.seq (.seq (.reg (⟨some 6,.mv (.t 0),none⟩::⟨some 7,.ln (.t 6),none⟩::⟨some 8,.mv (.c (.int .i64 0)),none⟩::[])) (.block 0 (.loop (.seq (.reg (⟨some 9,.bin .lss (.t 8) (.t 7),none⟩::[])) (.seq (.cond (.t 9) .skip (.exit 0)) (.seq (.block 1 (.seq (.reg (⟨some 10,.ia 1 (.t 6) (.t 8),none⟩::⟨some 11,.ld 1 false (.t 10),none⟩::⟨some 5,.mv (.t 11),none⟩::[])) (.seq (.reg (⟨some 12,.mv (.t 5),none⟩::⟨some 13,.mv (.t 3),none⟩::⟨some 14,.bin .neq (.t 12) (.t 13),none⟩::[])) (.cond (.t 14) (.seq (.reg (⟨some 15,.mv (.t 5),none⟩::⟨some 2,.mv (.t 15),none⟩::[])) .ret) .skip)))) (.reg (⟨some 16,.bin .add (.t 8) (.c (.int .i64 1)),none⟩::⟨some 8,.mv (.t 16),none⟩::[])))))))) (.seq (.reg (⟨some 17,.mv (.t 3),none⟩::⟨some 2,.mv (.t 17),none⟩::[])) .ret))))
theorem cd_cmp_Or_int : Code1 Tryz.prog 99 18 ir_cmp_Or_int [.t 2]:=⟨Tryz.call99,_,_,Tryz.func99,rfl,by kernel_rfl,by kernel_rfl,by kernel_rfl,by kernel_rfl⟩
theorem fs_nan_i (a : Int) : FS Tryz.prog 169 [.int .i64 a] (.bool false):=by
  refine fs_of_cvc mixed cd_cmp_isNaN_int64 (by simp) ?_
  repeat' (conv=>whnf); first | refine And.intro rfl ?_ | fail
  show SV.bool (decide (a ≠ a)) = _
  simp
theorem fs_nan_u (a : Int) : FS Tryz.prog 170 [.int .u64 a] (.bool false):=by
  refine fs_of_cvc mixed cd_cmp_isNaN_uint64 (by simp) ?_
  repeat' (conv=>whnf); first | refine And.intro rfl ?_ | fail
  show SV.bool (decide (a ≠ a)) = _
  simp
theorem fs_cmp_i (a b : Int) : FS Tryz.prog 164 [.int .i64 a,.int .i64 b] (.int .i64 (sgn3 a b)):=by
  refine fs_of_cvc mixed cd_cmp_Compare_int64 (by simp) ?_
  repeat' (conv=>whnf); first |(refine Or.inl ⟨by rfl,_,fs_nan_i _,?_⟩) | refine Br.ff ?_ |(refine Br.dec (fun h=>?_) (fun h=>?_)) <;> try (exfalso; omega) | refine And.intro rfl ?_ | fail
  all_goals (show SV.int .i64 _ = SV.int .i64 _; congr 1; unfold sgn3; simp [*])
theorem fs_cmp_u (a b : Int) : FS Tryz.prog 165 [.int .u64 a,.int .u64 b] (.int .i64 (sgn3 a b)):=by
  refine fs_of_cvc mixed cd_cmp_Compare_uint64 (by simp) ?_
  repeat' (conv=>whnf); first |(refine Or.inl ⟨by rfl,_,fs_nan_u _,?_⟩) | refine Br.ff ?_ |(refine Br.dec (fun h=>?_) (fun h=>?_)) <;> try (exfalso; omega) | refine And.intro rfl ?_ | fail
  all_goals (show SV.int .i64 _ = SV.int .i64 _; congr 1; unfold sgn3; simp [*])
theorem fs_or2 (p q : Int) : FS Tryz.prog 99 [.slc 1 [[.int .i64 p],[.int .i64 q]]] (.int .i64 (or2 p q)):=by
  refine fs_of_cvc mixed cd_cmp_Or_int (by simp) ?_
  repeat' (conv=>whnf); first | fail
  refine ⟨Nat,fun k=>k <= 2 /\ (1 <= k -> p = 0) /\ (2 <= k -> q = 0),fun k=>[(3,.int .i64 0),(6,.slc 1 [[.int .i64 p],[.int .i64 q]]),(7,.int .i64 2),(8,.int .i64 (k : Int))],fun k=>[],fun _=>none,fun k=>2 - k,⟨0,⟨by omega,by omega,by omega⟩,⟨rfl,rfl,rfl,rfl,trivial⟩,trivial,rfl⟩,fun k hk=>?_⟩
  obtain ⟨h1,h2,h3⟩:=hk
  repeat' (conv=>whnf); first |(refine Br.dec (fun h=>?_) (fun h=>?_)) <;> try (exfalso; omega) | refine And.intro rfl ?_ |(refine And.intro (by omega) ?_) | fail
  . rcases (show k = 0 \/ k = 1 by omega) with rfl | rfl
    . intro x hx
      obtain rfl : x = [.int .i64 p]:=by simpa using hx.symm
      repeat' (conv=>whnf); first |(refine Br.dec (fun h=>?_) (fun h=>?_)) <;> try (exfalso; omega) | refine And.intro rfl ?_ |(refine ⟨_,Or.inl ⟨⟨by omega,by omega⟩,rfl⟩,?_⟩) | fail
      . show SV.int .i64 p = _
        rw [or2,if_neg h]
      . exact ⟨1,⟨by omega,fun _=>by omega,by omega⟩,(show 2 - 1 < 2 - 0 by omega),⟨rfl,rfl,rfl,rfl,trivial⟩,trivial,rfl⟩
    . intro x hx
      obtain rfl : x = [.int .i64 q]:=by simpa using hx.symm
      repeat' (conv=>whnf); first |(refine Br.dec (fun h=>?_) (fun h=>?_)) <;> try (exfalso; omega) | refine And.intro rfl ?_ |(refine ⟨_,Or.inl ⟨⟨by omega,by omega⟩,rfl⟩,?_⟩) | fail
      . show SV.int .i64 q = _
        rw [or2,if_pos (h2 (by omega))]
      . exact ⟨2,⟨by omega,fun _=>h2 (by omega),fun _=>by omega⟩,(show 2 - 2 < 2 - 1 by omega),⟨rfl,rfl,rfl,rfl,trivial⟩,trivial,rfl⟩
  . show SV.int .i64 0 = _
    rw [or2,if_pos (h2 (by omega)),h3 (by omega)]
def ir_wide_Compare : IR :=
(.seq (.reg (⟨some 2,.bx (.t 0),none⟩::⟨some 3,.bx (.t 1),none⟩::⟨some 4,.mv (.c (.int .i64 0)),none⟩::[])) (.seq (.draw (⟨some 5,.fa 0 (.t 2),none⟩::⟨some 6,.ld 1 false (.t 5),none⟩::⟨some 7,.fa 0 (.t 3),none⟩::⟨some 8,.ld 1 false (.t 7),none⟩::⟨some 9,.call (.c (.fn 164 [])) [(.t 6),(.t 8)],none⟩::⟨some 10,.fa 1 (.t 2),none⟩::⟨some 11,.ld 1 false (.t 10),none⟩::⟨some 12,.fa 1 (.t 3),none⟩::⟨some 13,.ld 1 false (.t 12),none⟩::[]) (⟨some 14,.call (.c (.fn 165 [])) [(.t 11),(.t 13)],none⟩::⟨some 15,.bsl 2 1 [.int .i64 0] [(0,(.t 9)),(1,(.t 14))],none⟩::⟨some 16,.call (.c (.fn 99 [])) [(.t 15)],none⟩::⟨some 4,.mv (.t 16),none⟩::[])) .ret))
theorem cd_wide_Compare : Code1 Tryz.prog 150 17 ir_wide_Compare [.t 4]:=⟨Tryz.call150,_,_,Tryz.func150,rfl,by kernel_rfl,by kernel_rfl,by kernel_rfl,by kernel_rfl⟩
theorem fs_wCompare (x y : Int) (hx : W128 x) (hy : W128 y) : FS Tryz.prog 150 [WN x,WN y] (.int .i64 (sgn3 x y)):=by
  refine fs_of_cvc mixed cd_wide_Compare (by simp) ?_
  have c:=fs_or2 (sgn3 (hi x) (hi y)) (sgn3 (lo x) (lo y))
  rw [sgn_halves x y hx hy] at c
  repeat' (conv=>whnf); first |(refine Or.inl ⟨by rfl,_,fs_cmp_i _ _,?_⟩) |(refine Or.inl ⟨by rfl,_,fs_cmp_u _ _,?_⟩) |(refine Or.inl ⟨by rfl,_,c,?_⟩) | refine And.intro rfl ?_ |(refine And.intro (by simp only [lens_all]; first | done | omega) ?_) | fail
  exact rfl
end
section
open Go.RowKit
attribute [local irreducible] FS FO IT HS
def norm (x : Int) : Int:=hi x * 18446744073709551616 + lo x
theorem norm_w (x : Int) : W128 (norm x):=(halves_of _ _ (hi_bd x) (lo_bd x)).2.2
theorem WN_norm (x : Int) : WN (norm x) = WN x:=by
  obtain ⟨h1,h2,_⟩:=halves_of _ _ (hi_bd x) (lo_bd x)
  unfold WN norm
  rw [h1,h2]
theorem norm_id {x : Int} (h : W128 x) : norm x = x:=by
  obtain ⟨h1,h2,h3⟩:=halves_of _ _ (hi_bd x) (lo_bd x)
  exact eq_of_halves h3 h h1 h2
theorem W64i {n : Int} (h : I64 n) : W128 n:=of_wide n h
theorem W0 : W128 0:=by unfold W128; omega
theorem W1 : W128 1:=by unfold W128; omega
theorem eqw (neg : Bool) {x y : Int} (hx : W128 x) (hy : W128 y) : EqOk Tryz.prog neg 93 [.int .i64 (hi x),.int .u64 (lo x)] [.int .i64 (hi y),.int .u64 (lo y)] (match neg with | true=>decide (x ≠ y) | false=>decide (x = y)):=by
  have h:=eqok_flat (P:=Tryz.prog) neg Tryz.underlying93 (by kernel_rfl) (by kernel_rfl) (ks:=[.i64,.u64]) ⟨by decide,rfl,by kernel_rfl,by kernel_rfl,by kernel_rfl,by decide,rfl,by kernel_rfl,by kernel_rfl,by kernel_rfl,trivial⟩ (la:=[hi x,lo x]) (lb:=[hi y,lo y]) rfl rfl
  have e : ([hi x,lo x] = [hi y,lo y]) ↔ x = y:=⟨fun h=>by
    simp only [List.cons.injEq,and_true] at h
    exact eq_of_halves hx hy h.1 h.2,fun h=>by rw [h]⟩
  have e2 : ([hi x,lo x] ≠ [hi y,lo y]) ↔ x ≠ y:=not_congr e
  cases neg
  . simp only [decide_eq_decide.2 e] at h; exact h
  . simp only [decide_eq_decide.2 e2] at h; exact h
def lt3 (r : Int) : Bool:=decide (r = 1) || (decide (r = 3) || decide (r = 4))
def isR (r : Int) : Bool:=decide (0 < r) && decide (r < 6)
def tru (b : Bool) : Int:=if b then 1 else 0
def rAdd (r x y : Int) : Int:=if lt3 r = true then (if x <= y then x else y) else if r = 2 then tru (decide (x ≠ 0) || decide (y ≠ 0)) else if r = 5 then norm (x + y) else 0
def rMul (r a x : Int) : Int:=if r = 2 then tru (decide (a ≠ 0) && decide (x ≠ 0)) else if r = 5 then a * x else if isR r = true /\ 4611686018427387904 <= max a x then 4611686018427387904 else if r = 1 then min 4611686018427387904 (a + x) else if r = 4 then min 4611686018427387904 x else if r = 3 then a else 0
def ir_ring_Is : IR :=
(.seq (.reg (⟨some 2,.mv (.c (.bool false)),none⟩::[])) (.seq (.reg (⟨some 3,.mv (.t 0),none⟩::⟨some 4,.bin .gtr (.t 3) (.c (.int .i64 0)),none⟩::⟨some 5,.mv (.t 4),none⟩::⟨some 6,.mv (.t 0),some (5,true)⟩::⟨some 7,.bin .lss (.t 6) (.c (.int .i64 6)),some (5,true)⟩::⟨some 8,.pick (.t 5) (.t 7) (.c (.bool false)),none⟩::⟨some 2,.mv (.t 8),none⟩::[])) .ret))
theorem cd_ring_Is : Code1 Tryz.prog 22 9 ir_ring_Is [.t 2]:=⟨Tryz.call22,_,_,Tryz.func22,rfl,by kernel_rfl,by kernel_rfl,by kernel_rfl,by kernel_rfl⟩
theorem fs_Is (r : Int) : FS Tryz.prog 22 [.int .i64 r] (.bool (isR r)):=by
  refine fs_of_cvc mixed cd_ring_Is (by simp) ?_
  repeat' (conv=>whnf); first | refine Br.tt ?_ | refine Br.ff ?_ |(refine Br.dec (fun h=>?_) (fun h=>?_)) <;> try (exfalso; omega) | refine And.intro rfl ?_ | fail
  all_goals (show SV.bool _ = SV.bool _; unfold isR; simp [*])
def ir_ring_truth : IR :=
(.seq (.reg (⟨some 2,.al [.int .i64 0,.int .u64 0],none⟩::[])) (.seq (.seq (.reg (⟨some 3,.mv (.t 0),none⟩::[])) (.cond (.t 3) (.seq (.reg (⟨some 4,.call (.c (.fn 147 [])) [(.c (.int .i64 1))],none⟩::⟨none,.st 2 (.t 2) (.t 4),none⟩::[])) .ret) .skip)) (.seq (.reg (⟨some 5,.bld [.int .i64 0,.int .u64 0] [],none⟩::⟨none,.st 2 (.t 2) (.t 5),none⟩::[])) .ret)))
theorem cd_ring_truth : Code1 Tryz.prog 121 6 ir_ring_truth [.c 2 true 2]:=⟨Tryz.call121,_,_,Tryz.func121,rfl,by kernel_rfl,by kernel_rfl,by kernel_rfl,by kernel_rfl⟩
theorem fs_truth (b : Bool) : FS Tryz.prog 121 [.bool b] (WN (tru b)):=by
  refine fs_of_cvc mixed cd_ring_truth (by simp) ?_
  repeat' (conv=>whnf); first |((refine Or.inl ⟨by rfl,_,fs_wOf 1 (by unfold I64; omega),?_⟩)) |(refine Br.mk (fun h=>?_) (fun h=>?_)) | refine And.intro rfl ?_ |(refine And.intro (by simp only [lens_all]; first | done | omega) ?_) | fail
  . subst h; exact rfl
  . subst h
    show SV.agg [.int .i64 0,.int .u64 0] = WN 0
    unfold WN; rw [zero_hi,zero_lo]
def ir_ring_lesser : IR :=
(.seq (.reg (⟨some 2,.bx (.t 0),none⟩::⟨some 3,.bx (.t 1),none⟩::⟨some 4,.al [.int .i64 0,.int .u64 0],none⟩::[])) (.seq (.seq (.reg (⟨some 5,.ld 2 true (.t 2),none⟩::⟨some 6,.ld 2 true (.t 3),none⟩::⟨some 7,.call (.c (.fn 150 [])) [(.t 5),(.t 6)],none⟩::⟨some 8,.bin .leq (.t 7) (.c (.int .i64 0)),none⟩::[])) (.cond (.t 8) (.seq (.reg (⟨some 9,.ld 2 true (.t 2),none⟩::⟨none,.st 2 (.t 4) (.t 9),none⟩::[])) .ret) .skip)) (.seq (.reg (⟨some 10,.ld 2 true (.t 3),none⟩::⟨none,.st 2 (.t 4) (.t 10),none⟩::[])) .ret)))
theorem cd_ring_lesser : Code1 Tryz.prog 120 11 ir_ring_lesser [.c 2 true 4]:=⟨Tryz.call120,_,_,Tryz.func120,rfl,by kernel_rfl,by kernel_rfl,by kernel_rfl,by kernel_rfl⟩
theorem fs_lesser (x y : Int) (hx : W128 x) (hy : W128 y) : FS Tryz.prog 120 [WN x,WN y] (WN (if x <= y then x else y)):=by
  refine fs_of_cvc mixed cd_ring_lesser (by simp) ?_
  repeat' (conv=>whnf); first |(refine Or.inl ⟨by rfl,_,fs_wCompare x y hx hy,?_⟩) |(refine Br.dec (fun h=>?_) (fun h=>?_)) <;> try (exfalso; omega) | refine And.intro rfl ?_ |(refine And.intro (by simp only [lens_all]; first | done | omega) ?_) | fail
  . show WN x = _
    rw [if_pos]; unfold sgn3 at h; split at h <;> (try split at h) <;> omega
  . show WN y = _
    rw [if_neg]; unfold sgn3 at h; split at h <;> (try split at h) <;> omega
theorem W_min {x y : Int} (hx : W128 x) (hy : W128 y) : W128 (if x <= y then x else y):=by split <;> assumption
theorem W_tru (b : Bool) : W128 (tru b):=by
  cases b
  . exact W0
  . exact W1
theorem rAdd_w {r x y : Int} (hx : W128 x) (hy : W128 y) : W128 (rAdd r x y):=by
  unfold rAdd
  split
  . exact W_min hx hy
  . split
    . exact W_tru _
    . split
      . exact norm_w _
      . exact W0
def ir_ring_Add : IR :=
(.seq (.reg (⟨some 4,.bx (.t 1),none⟩::⟨some 5,.bx (.t 2),none⟩::⟨some 6,.al [.int .i64 0,.int .u64 0],none⟩::[])) (.seq (.seq (.reg (⟨some 7,.mv (.t 0),none⟩::[])) (.block 0 (.seq (.seq (.reg (⟨some 9,.bin .eql (.t 7) (.c (.int .i64 1)),none⟩::⟨some 8,.mv (.t 9),none⟩::[])) (.cond (.t 8) .skip (.seq (.reg (⟨some 10,.bin .eql (.t 7) (.c (.int .i64 3)),none⟩::⟨some 8,.mv (.t 10),none⟩::[])) (.cond (.t 8) .skip (.reg (⟨some 11,.bin .eql (.t 7) (.c (.int .i64 4)),none⟩::⟨some 8,.mv (.t 11),none⟩::[])))))) (.cond (.t 8) (.seq (.reg (⟨some 12,.ld 2 true (.t 4),none⟩::⟨some 13,.ld 2 true (.t 5),none⟩::⟨some 14,.call (.c (.fn 120 [])) [(.t 12),(.t 13)],none⟩::⟨none,.st 2 (.t 6) (.t 14),none⟩::[])) .ret) (.seq (.reg (⟨some 16,.bin .eql (.t 7) (.c (.int .i64 2)),none⟩::⟨some 15,.mv (.t 16),none⟩::[])) (.cond (.t 15) (.seq (.reg (⟨some 17,.ld 2 true (.t 4),none⟩::⟨some 18,.ld 2 true (.t 5),none⟩::⟨some 19,.eqv true 93 (.t 17) (.t 18),none⟩::⟨some 20,.mv (.t 19),none⟩::⟨some 21,.ld 2 true (.t 4),some (20,false)⟩::⟨some 22,.bld [.int .i64 0,.int .u64 0] [],some (20,false)⟩::⟨some 23,.eqv true 93 (.t 21) (.t 22),some (20,false)⟩::⟨some 24,.pick (.t 20) (.c (.bool true)) (.t 23),none⟩::⟨some 25,.call (.c (.fn 121 [])) [(.t 24)],none⟩::⟨none,.st 2 (.t 6) (.t 25),none⟩::[])) .ret) (.seq (.reg (⟨some 27,.bin .eql (.t 7) (.c (.int .i64 5)),none⟩::⟨some 26,.mv (.t 27),none⟩::[])) (.cond (.t 26) (.seq (.reg (⟨some 28,.ld 2 true (.t 4),none⟩::⟨some 29,.ld 2 true (.t 5),none⟩::⟨some 30,.call (.c (.fn 122 [])) [(.t 28),(.t 29)],none⟩::⟨none,.st 2 (.t 6) (.t 30),none⟩::[])) .ret) .skip)))))))) (.seq (.reg (⟨some 31,.bld [.int .i64 0,.int .u64 0] [],none⟩::⟨none,.st 2 (.t 6) (.t 31),none⟩::[])) .ret)))
theorem cd_ring_Add : Code1 Tryz.prog 88 32 ir_ring_Add [.c 2 true 6]:=⟨Tryz.call88,_,_,Tryz.func88,rfl,by kernel_rfl,by kernel_rfl,by kernel_rfl,by kernel_rfl⟩
set_option maxHeartbeats 1000000 in
theorem fs_rAdd (r x y : Int) (hx : W128 x) (hy : W128 y) : FS Tryz.prog 88 [.int .i64 r,WN x,WN y] (WN (rAdd r x y)):=by
  refine fs_of_cvc mixed cd_ring_Add (by simp) ?_
  have e1:=eqw true hx hy
  have e2 : EqOk Tryz.prog true 93 [.int .i64 (hi x),.int .u64 (lo x)] [.int .i64 0,.int .u64 0] (decide (x ≠ 0)):=by
    have:=eqw true hx W0
    rwa [zero_hi,zero_lo] at this
  have lt : lt3 r = true -> rAdd r x y = if x <= y then x else y:=fun h=>if_pos h
  repeat' (conv=>whnf); first |(refine Or.inl ⟨by rfl,_,fs_lesser x y hx hy,?_⟩) |(refine ⟨_,e1,?_⟩) |(refine ⟨_,e2,?_⟩) |(refine Or.inl ⟨by rfl,_,fs_truth _,?_⟩) |(refine Or.inl ⟨by rfl,_,fs_wAdd x y,?_⟩) | refine Br.tt ?_ | refine Br.ff ?_ |(refine Br.dec (fun h=>?_) (fun h=>?_)) <;> try (exfalso; omega) | refine And.intro rfl ?_ |(refine And.intro (by simp only [lens_all]; first | done | omega) ?_) | fail
  . show WN _ = WN _
    rw [lt (by simp [lt3, *])]
  . show WN _ = WN _
    rw [lt (by simp [lt3, *])]
  . show WN _ = WN _
    rw [lt (by simp [lt3, *])]
  . show WN (tru true) = WN _
    have e3 : (decide (x ≠ 0) || decide (y ≠ 0)) = true:=by
      rw [Bool.or_eq_true,decide_eq_true_iff,decide_eq_true_iff]; omega
    rw [rAdd,if_neg (by simp [lt3, *]),if_pos (by assumption),e3]
  . show WN (tru (decide (x ≠ 0))) = WN _
    have e3 : (decide (x ≠ 0) || decide (y ≠ 0)) = decide (x ≠ 0):=by
      rw [show y = x from (Classical.not_not.1 h).symm,Bool.or_self]
    rw [rAdd,if_neg (by simp [lt3, *]),if_pos (by assumption),e3]
  . show WN (x + y) = WN _
    rw [rAdd,if_neg (by simp [lt3, *]),if_neg (by assumption),if_pos (by assumption),WN_norm]
  . show SV.agg [.int .i64 0,.int .u64 0] = WN _
    rw [rAdd,if_neg (by simp [lt3, *]),if_neg (by assumption),if_neg (by assumption)]
    unfold WN; rw [zero_hi,zero_lo]
def rZero (r : Int) : Int:=if lt3 r = true then 4611686018427387904 else 0
def ir_ring_Mul : IR :=
(.seq (.reg (⟨some 6,.al [.int .i64 0,.int .u64 0],none⟩::[])) (.seq (.seq (.reg (⟨some 8,.mv (.t 0),none⟩::[])) (.block 0 (.seq (.reg (⟨some 10,.bin .eql (.t 8) (.c (.int .i64 2)),none⟩::⟨some 9,.mv (.t 10),none⟩::[])) (.cond (.t 9) (.seq (.reg (⟨some 11,.mv (.t 1),none⟩::⟨some 12,.bin .neq (.t 11) (.c (.int .i64 0)),none⟩::⟨some 13,.mv (.t 12),none⟩::⟨some 14,.mv (.t 2),some (13,true)⟩::⟨some 15,.bin .neq (.t 14) (.c (.int .i64 0)),some (13,true)⟩::⟨some 16,.pick (.t 13) (.t 15) (.c (.bool false)),none⟩::⟨some 17,.call (.c (.fn 121 [])) [(.t 16)],none⟩::⟨none,.st 2 (.t 6) (.t 17),none⟩::[])) .ret) (.seq (.reg (⟨some 19,.bin .eql (.t 8) (.c (.int .i64 5)),none⟩::⟨some 18,.mv (.t 19),none⟩::[])) (.cond (.t 18) (.seq (.reg (⟨some 20,.mv (.t 1),none⟩::⟨some 21,.mv (.t 2),none⟩::⟨some 22,.call (.c (.fn 146 [])) [(.t 20),(.t 21)],none⟩::⟨none,.st 2 (.t 6) (.t 22),none⟩::[])) .ret) .skip)))))) (.seq (.seq (.reg (⟨some 23,.mv (.t 0),none⟩::⟨some 24,.call (.c (.fn 22 [])) [(.t 23)],none⟩::⟨some 25,.mv (.t 24),none⟩::⟨some 26,.mv (.t 1),some (25,true)⟩::⟨some 27,.mv (.t 2),some (25,true)⟩::⟨some 28,.mm true [(.t 26),(.t 27)],some (25,true)⟩::⟨some 29,.bin .geq (.t 28) (.c (.int .i64 4611686018427387904)),some (25,true)⟩::⟨some 30,.pick (.t 25) (.t 29) (.c (.bool false)),none⟩::[])) (.cond (.t 30) (.seq (.reg (⟨some 31,.call (.c (.fn 147 [])) [(.c (.int .i64 4611686018427387904))],none⟩::⟨none,.st 2 (.t 6) (.t 31),none⟩::[])) .ret) .skip)) (.seq (.reg (⟨some 32,.bld [.int .i64 0,.int .u64 0] [],none⟩::⟨some 7,.al [.int .i64 0,.int .u64 0],none⟩::⟨none,.st 2 (.t 7) (.t 32),none⟩::[])) (.seq (.seq (.reg (⟨some 33,.mv (.t 0),none⟩::[])) (.block 1 (.seq (.block 4 (.seq (.block 3 (.seq (.block 2 (.seq (.seq (.seq (.reg (⟨some 35,.bin .eql (.t 33) (.c (.int .i64 1)),none⟩::⟨some 34,.mv (.t 35),none⟩::[])) (.cond (.t 34) (.exit 2) .skip)) (.seq (.seq (.reg (⟨some 37,.bin .eql (.t 33) (.c (.int .i64 4)),none⟩::⟨some 36,.mv (.t 37),none⟩::[])) (.cond (.t 36) (.exit 3) .skip)) (.seq (.reg (⟨some 39,.bin .eql (.t 33) (.c (.int .i64 3)),none⟩::⟨some 38,.mv (.t 39),none⟩::[])) (.cond (.t 38) (.exit 4) .skip)))) (.exit 1))) (.reg (⟨some 40,.mv (.t 1),none⟩::⟨some 41,.call (.c (.fn 147 [])) [(.t 40)],none⟩::⟨none,.st 2 (.t 7) (.t 41),none⟩::[])))) (.seq (.seq (.draw (⟨some 42,.call (.c (.fn 147 [])) [(.c (.int .i64 4611686018427387904))],none⟩::⟨some 43,.ld 2 true (.t 7),none⟩::⟨some 44,.mv (.t 2),none⟩::⟨some 45,.call (.c (.fn 147 [])) [(.t 44)],none⟩::[]) (⟨some 46,.call (.c (.fn 122 [])) [(.t 43),(.t 45)],none⟩::⟨some 47,.call (.c (.fn 120 [])) [(.t 42),(.t 46)],none⟩::⟨none,.st 2 (.t 6) (.t 47),none⟩::[])) .ret) (.exit 1)))) (.seq (.seq (.reg (⟨some 48,.mv (.t 1),none⟩::⟨some 49,.call (.c (.fn 147 [])) [(.t 48)],none⟩::⟨none,.st 2 (.t 6) (.t 49),none⟩::[])) .ret) (.exit 1))))) (.seq (.reg (⟨some 50,.ld 2 true (.t 7),none⟩::⟨none,.st 2 (.t 6) (.t 50),none⟩::[])) .ret))))))
theorem cd_ring_Mul : Code1 Tryz.prog 115 51 ir_ring_Mul [.c 2 true 6]:=⟨Tryz.call115,_,_,Tryz.func115,rfl,by kernel_rfl,by kernel_rfl,by kernel_rfl,by kernel_rfl⟩
set_option maxHeartbeats 1000000 in
theorem fs_rMul (r a x : Int) (ha : I64 a) (hx : I64 x) : FS Tryz.prog 115 [.int .i64 r,.int .i64 a,.int .i64 x] (WN (rMul r a x)):=by
  refine fs_of_cvc mixed cd_ring_Mul (by simp) ?_
  have hi1 : I64 4611686018427387904:=by unfold I64; omega
  have hax : W128 (a + x):=by unfold I64 at ha hx; unfold W128; omega
  have cz : FS Tryz.prog 122 [.agg [.int .i64 0,.int .u64 0],WN x] (WN (0 + x)):=by
    have:=fs_wAdd 0 x
    unfold WN at this ⊢
    rwa [zero_hi,zero_lo] at this
  have hzx : W128 (0 + x):=by rw [Int.zero_add]; exact W64i hx
  repeat' (conv=>whnf); first |(refine Or.inl ⟨by rfl,_,fs_truth _,?_⟩) |(refine Or.inl ⟨by rfl,_,fs_wMul a x ha hx,?_⟩) |(refine Or.inl ⟨by rfl,_,fs_Is r,?_⟩) |(refine Or.inl ⟨by rfl,_,fs_wOf 4611686018427387904 hi1,?_⟩) |(refine Or.inl ⟨by rfl,_,fs_wOf a ha,?_⟩) |(refine Or.inl ⟨by rfl,_,fs_wOf x hx,?_⟩) |(refine Or.inl ⟨by rfl,_,cz,?_⟩) |(refine Or.inl ⟨by rfl,_,fs_wAdd a x,?_⟩) |(refine Or.inl ⟨by rfl,_,fs_lesser _ _ (W64i hi1) hax,?_⟩) |(refine Or.inl ⟨by rfl,_,fs_lesser _ _ (W64i hi1) hzx,?_⟩) | refine Br.tt ?_ | refine Br.ff ?_ |(refine Br.dec (fun h=>?_) (fun h=>?_)) <;> try (exfalso; omega) |(refine Br.mk (fun h=>?_) (fun h=>?_)) | refine And.intro rfl ?_ |(refine And.intro (by simp only [lens_all]; first | done | omega) ?_) | fail
  . show WN (tru (decide (x ≠ 0))) = WN _
    have h' : decide (a ≠ 0) = true:=decide_eq_true h
    rw [rMul,if_pos (by assumption),h',Bool.true_and]
  . show WN (tru false) = WN _
    have h' : decide (a ≠ 0) = false:=decide_eq_false h
    rw [rMul,if_pos (by assumption),h',Bool.false_and]
  . show WN (a * x) = WN _
    rw [rMul,if_neg (by assumption),if_pos (by assumption)]
  . show WN _ = WN _
    rw [rMul,if_neg (by assumption),if_neg (by assumption),if_pos ⟨by assumption,by assumption⟩]
  . show WN (if (4611686018427387904 : Int) <= a + x then 4611686018427387904 else a + x) = WN _
    conv=>rhs; rw [rMul,if_neg (by assumption),if_neg (by assumption),if_neg (fun hh=>by have:=hh.2; omega),if_pos (by assumption),Int.min_def]
  . show WN (if (4611686018427387904 : Int) <= 0 + x then 4611686018427387904 else 0 + x) = WN _
    conv=>rhs; rw [rMul,if_neg (by assumption),if_neg (by assumption),if_neg (fun hh=>by have:=hh.2; omega),if_neg (by assumption),if_pos (by assumption),Int.min_def]
    rw [Int.zero_add]
  . show WN a = WN _
    rw [rMul,if_neg (by assumption),if_neg (by assumption),if_neg (fun hh=>by have:=hh.2; omega),if_neg (by assumption),if_neg (by assumption),if_pos (by assumption)]
  . show SV.agg [.int .i64 0,.int .u64 0] = WN _
    rw [rMul,if_neg (by assumption),if_neg (by assumption),if_neg (fun hh=>by have:=hh.2; omega),if_neg (by assumption),if_neg (by assumption),if_neg (by assumption)]
    unfold WN; rw [zero_hi,zero_lo]
  all_goals
    have hir : isR r = false:=by assumption
    first
      | (exfalso; simp [isR] at hir; omega)
      | (show SV.agg [.int .i64 0, .int .u64 0] = WN _
         rw [rMul,if_neg (by assumption),if_neg (by assumption),if_neg (fun hh=>by have:=hh.1; rw [hir] at this; cases this),if_neg (by assumption),if_neg (by assumption),if_neg (by assumption)]
         unfold WN; rw [zero_hi,zero_lo])
theorem rMul_w {r a x : Int} (ha : I64 a) (hx : I64 x) : W128 (rMul r a x):=by
  unfold rMul
  have h0:=W0
  have hm : W128 (a * x):=by
    have ma:=mag_bd a ha
    have mb:=mag_bd x hx
    have:=mul_bd (mag a) (mag x) 9223372036854775808 9223372036854775808 ma.1 mb.1 ma.2 mb.2
    have e : a * x = mag a * mag x \/ a * x = -(mag a * mag x):=by
      unfold mag
      split <;> split
      . left; rw [Int.neg_mul_neg]
      . right; rw [Int.neg_mul,Int.neg_neg]
      . right; rw [Int.mul_neg,Int.neg_neg]
      . left; rfl
    unfold W128
    rcases e with e | e <;> rw [e] <;> omega
  unfold I64 at ha hx
  split
  . exact W_tru _
  . split
    . exact hm
    . split
      . unfold W128; omega
      . split
        . unfold W128; omega
        . split
          . unfold W128; omega
          . split
            . unfold W128; omega
            . exact h0
end
end Go.Proofs.YtelbhbadkbcakaaGreat
