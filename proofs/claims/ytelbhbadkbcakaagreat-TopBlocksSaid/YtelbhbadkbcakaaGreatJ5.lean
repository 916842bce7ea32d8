/- A matrix by its columns that have anything: when it is right. A column's items. A column, times a value; sure ones. All columns asked, merged. A matrix by columns, times a vector. How much work columns are; how many values a matrix has. No matrix by columns: laid anew. How much work a product is. -/
import Derived.Test.YtelbhbadkbcakaaGreatJ4
import Derived.Tactics
import Derived.Tactics2
import Derived.WideLaws
import Derived.WalkKit
import Derived.Laws.Rows
namespace Go.Proofs.YtelbhbadkbcakaaGreat
section
open Go.RowKit
attribute [local irreducible] FS FO IT HS
def DX (rows cols : Int) (jc cp ir num : List Int) : SV:=.agg [.int .i64 rows,.int .i64 cols,Z jc,Z cp,Z ir,Z num]
def RisN (l : List Int) (n : Int) : Prop:=∀ i,i < l.length -> (0 <= l.getD i 0 /\ l.getD i 0 <= n - 1) /\ (0 < i -> l.getD (i - 1) 0 < l.getD i 0)
def ir_dcsc_within : IR :=
(.seq (.reg (⟨some 4,.mv (.c (.bool false)),none⟩::[])) (.seq (.reg (⟨some 5,.mv (.t 0),none⟩::⟨some 6,.bin .geq (.t 5) (.c (.int .i64 0)),none⟩::⟨some 7,.mv (.t 6),none⟩::⟨some 8,.mv (.t 0),some (7,true)⟩::⟨some 9,.mv (.t 1),some (7,true)⟩::⟨some 10,.bin .leq (.t 8) (.t 9),some (7,true)⟩::⟨some 11,.pick (.t 7) (.t 10) (.c (.bool false)),none⟩::⟨some 4,.mv (.t 11),none⟩::[])) .ret))
theorem cd_dcsc_within : Code1 Tryz.prog 144 12 ir_dcsc_within [.t 4]:=⟨Tryz.call144,_,_,Tryz.func144,rfl,by kernel_rfl,by kernel_rfl,by kernel_rfl,by kernel_rfl⟩
theorem fs_dwithin (a b : Int) : FS Tryz.prog 144 [.int .i64 a,.int .i64 b] (.bool (decide (0 <= a /\ a <= b))):=by
  refine fs_of_cvc mixed cd_dcsc_within (by simp) ?_
  repeat' (conv=>whnf); first | refine Br.tt ?_ | refine Br.ff ?_ |(refine Br.dec (fun h=>?_) (fun h=>?_)) <;> try (exfalso; omega) | refine And.intro rfl ?_ | fail
  all_goals
    show SV.bool _ = SV.bool _
    simp [*]
def ir_dcsc_rising : IR :=
(.seq (.reg (⟨some 4,.mv (.c (.bool false)),none⟩::[])) (.seq (.seq (.reg (⟨some 7,.mv (.t 0),none⟩::⟨some 8,.ln (.t 7),none⟩::⟨some 9,.mv (.c (.int .i64 0)),none⟩::[])) (.block 0 (.loop (.seq (.reg (⟨some 10,.bin .lss (.t 9) (.t 8),none⟩::[])) (.seq (.cond (.t 10) .skip (.exit 0)) (.seq (.block 1 (.seq (.reg (⟨some 11,.mv (.t 9),none⟩::⟨some 12,.ia 1 (.t 7) (.t 9),none⟩::⟨some 13,.ld 1 false (.t 12),none⟩::⟨some 5,.mv (.t 11),none⟩::⟨some 6,.mv (.t 13),none⟩::[])) (.seq (.reg (⟨some 14,.mv (.t 6),none⟩::⟨some 15,.mv (.t 1),none⟩::⟨some 16,.bin .sub (.t 15) (.c (.int .i64 1)),none⟩::⟨some 17,.call (.c (.fn 144 [])) [(.t 14),(.t 16)],none⟩::⟨some 18,.un .not (.t 17),none⟩::⟨some 19,.mv (.t 18),none⟩::⟨some 20,.mv (.t 5),some (19,false)⟩::⟨some 21,.bin .gtr (.t 20) (.c (.int .i64 0)),some (19,false)⟩::⟨some 22,.mv (.t 21),some (19,false)⟩::⟨some 23,.mv (.t 0),some (22,true)⟩::⟨some 24,.mv (.t 5),some (22,true)⟩::⟨some 25,.bin .sub (.t 24) (.c (.int .i64 1)),some (22,true)⟩::⟨some 26,.ia 1 (.t 23) (.t 25),some (22,true)⟩::⟨some 27,.ld 1 false (.t 26),some (22,true)⟩::⟨some 28,.mv (.t 6),some (22,true)⟩::⟨some 29,.bin .geq (.t 27) (.t 28),some (22,true)⟩::⟨some 30,.pick (.t 22) (.t 29) (.c (.bool false)),some (19,false)⟩::⟨some 31,.pick (.t 19) (.c (.bool true)) (.t 30),none⟩::[])) (.cond (.t 31) (.seq (.reg (⟨some 4,.mv (.c (.bool false)),none⟩::[])) .ret) .skip)))) (.reg (⟨some 32,.bin .add (.t 9) (.c (.int .i64 1)),none⟩::⟨some 9,.mv (.t 32),none⟩::[])))))))) (.seq (.reg (⟨some 4,.mv (.c (.bool true)),none⟩::[])) .ret)))
theorem cd_dcsc_rising : Code1 Tryz.prog 145 33 ir_dcsc_rising [.t 4]:=⟨Tryz.call145,_,_,Tryz.func145,rfl,by kernel_rfl,by kernel_rfl,by kernel_rfl,by kernel_rfl⟩
theorem fs_drising (l : List Int) (n : Int) (h : RisN l n) (hl : l.length <= 1000000) (hn : -1000000000 <= n /\ n <= 1000000000) : FS Tryz.prog 145 [Z l,.int .i64 n] (.bool true):=by
  refine fs_of_cvc mixed cd_dcsc_rising (by simp) ?_
  have hzl:=zs_len l
  refine ⟨Nat,fun k=>k <= l.length,fun k=>[(0,Z l),(1,.int .i64 n),(7,Z l),(8,.int .i64 (l.length : Int)),(9,.int .i64 (k : Int))],fun k=>[],fun _=>none,fun k=>l.length - k,⟨0,Nat.zero_le _,⟨rfl,rfl,rfl,?_,rfl,trivial⟩,trivial,rfl⟩,fun k hk=>?_⟩
  . show SV.int .i64 _ = SV.int .i64 _
    rw [zs_len]
  have hk' : k <= l.length:=hk
  by_cases hkl : k < l.length
  . obtain ⟨y,hy⟩ : ∃ y,l.getD k 0 = y:=⟨_,rfl⟩
    obtain ⟨z,hz⟩ : ∃ z,l.getD (k - 1) 0 = z:=⟨_,rfl⟩
    have hr:=h k hkl
    rw [hy,hz] at hr
    have c1 : FS Tryz.prog 144 [.int .i64 y,.int .i64 (n - 1)] (.bool true):=by
      have:=fs_dwithin y (n - 1)
      rwa [decide_eq_true hr.1] at this
    repeat' (conv=>whnf); first |(refine zs_go (i:=k) (by omega) hy ?_) |(refine zs_go (i:=k - 1) (by omega) hz ?_) |(refine Or.inl ⟨by rfl,_,c1,?_⟩) | refine Br.tt ?_ | refine Br.ff ?_ |(refine Br.dec (fun h=>?_) (fun h=>?_)) <;> try (exfalso; omega) | refine And.intro rfl ?_ |(refine And.intro (by omega) ?_) |(refine ⟨_,Or.inl ⟨⟨by omega,by omega⟩,rfl⟩,?_⟩) | fail
    all_goals exact ⟨k + 1,(show k + 1 <= l.length by omega),(show l.length - (k + 1) < l.length - k by omega),⟨rfl,rfl,rfl,rfl,rfl,trivial⟩,trivial,rfl⟩
  . repeat' (conv=>whnf); first |(refine Br.dec (fun h=>?_) (fun h=>?_)) <;> try (exfalso; omega) | refine And.intro rfl ?_ | fail
    exact rfl
structure OkC (rows cols : Int) (jc cp ir num : List Int) : Prop where
  r : 0 <= rows /\ rows <= 4096
  c : 0 <= cols /\ cols <= 4096
  lc : cp.length = jc.length + 1
  ln : num.length = ir.length
  nl : ir.length <= 65536
  lj : jc.length <= 4096
  jr : RisN jc cols
  cr : RisN cp (ir.length + 1)
  c0 : cp.getD 0 0 = 0
  cn : cp.getD jc.length 0 = ir.length
  seg : ∀ k,k < jc.length -> RisN ((ir.take (cp.getD (k + 1) 0).toNat).drop (cp.getD k 0).toNat) rows
def ir_dcsc_Right : IR :=
(.seq (.reg (⟨some 1,.bx (.t 0),none⟩::⟨some 2,.mv (.c (.bool false)),none⟩::[])) (.seq (.reg (⟨some 5,.fa 4 (.t 1),none⟩::⟨some 6,.ld 1 false (.t 5),none⟩::⟨some 7,.ln (.t 6),none⟩::⟨some 3,.mv (.t 7),none⟩::[])) (.seq (.seq (.reg (⟨some 8,.fa 0 (.t 1),none⟩::⟨some 9,.ld 1 false (.t 8),none⟩::⟨some 10,.call (.c (.fn 144 [])) [(.t 9),(.c (.int .i64 4096))],none⟩::⟨some 11,.un .not (.t 10),none⟩::⟨some 12,.mv (.t 11),none⟩::⟨some 13,.fa 1 (.t 1),some (12,false)⟩::⟨some 14,.ld 1 false (.t 13),some (12,false)⟩::⟨some 15,.call (.c (.fn 144 [])) [(.t 14),(.c (.int .i64 4096))],some (12,false)⟩::⟨some 16,.un .not (.t 15),some (12,false)⟩::⟨some 17,.pick (.t 12) (.c (.bool true)) (.t 16),none⟩::⟨some 18,.mv (.t 17),none⟩::⟨some 19,.fa 3 (.t 1),some (18,false)⟩::⟨some 20,.ld 1 false (.t 19),some (18,false)⟩::⟨some 21,.ln (.t 20),some (18,false)⟩::⟨some 22,.fa 2 (.t 1),some (18,false)⟩::⟨some 23,.ld 1 false (.t 22),some (18,false)⟩::⟨some 24,.ln (.t 23),some (18,false)⟩::⟨some 25,.bin .add (.t 24) (.c (.int .i64 1)),some (18,false)⟩::⟨some 26,.bin .neq (.t 21) (.t 25),some (18,false)⟩::⟨some 27,.pick (.t 18) (.c (.bool true)) (.t 26),none⟩::⟨some 28,.mv (.t 27),none⟩::⟨some 29,.fa 5 (.t 1),some (28,false)⟩::⟨some 30,.ld 1 false (.t 29),some (28,false)⟩::⟨some 31,.ln (.t 30),some (28,false)⟩::⟨some 32,.mv (.t 3),some (28,false)⟩::⟨some 33,.bin .neq (.t 31) (.t 32),some (28,false)⟩::⟨some 34,.pick (.t 28) (.c (.bool true)) (.t 33),none⟩::⟨some 35,.mv (.t 34),none⟩::⟨some 36,.mv (.t 3),some (35,false)⟩::⟨some 37,.bin .gtr (.t 36) (.c (.int .i64 65536)),some (35,false)⟩::⟨some 38,.pick (.t 35) (.c (.bool true)) (.t 37),none⟩::[])) (.cond (.t 38) (.seq (.reg (⟨some 2,.mv (.c (.bool false)),none⟩::[])) .ret) .skip)) (.seq (.seq (.reg (⟨some 39,.fa 2 (.t 1),none⟩::⟨some 40,.ld 1 false (.t 39),none⟩::⟨some 41,.fa 1 (.t 1),none⟩::⟨some 42,.ld 1 false (.t 41),none⟩::⟨some 43,.call (.c (.fn 145 [])) [(.t 40),(.t 42)],none⟩::⟨some 44,.un .not (.t 43),none⟩::⟨some 45,.mv (.t 44),none⟩::⟨some 46,.fa 3 (.t 1),some (45,false)⟩::⟨some 47,.ld 1 false (.t 46),some (45,false)⟩::⟨some 48,.mv (.t 3),some (45,false)⟩::⟨some 49,.bin .add (.t 48) (.c (.int .i64 1)),some (45,false)⟩::⟨some 50,.call (.c (.fn 145 [])) [(.t 47),(.t 49)],some (45,false)⟩::⟨some 51,.un .not (.t 50),some (45,false)⟩::⟨some 52,.pick (.t 45) (.c (.bool true)) (.t 51),none⟩::⟨some 53,.mv (.t 52),none⟩::⟨some 54,.fa 3 (.t 1),some (53,false)⟩::⟨some 55,.ld 1 false (.t 54),some (53,false)⟩::⟨some 56,.ia 1 (.t 55) (.c (.int .i64 0)),some (53,false)⟩::⟨some 57,.ld 1 false (.t 56),some (53,false)⟩::⟨some 58,.bin .neq (.t 57) (.c (.int .i64 0)),some (53,false)⟩::⟨some 59,.pick (.t 53) (.c (.bool true)) (.t 58),none⟩::⟨some 60,.mv (.t 59),none⟩::⟨some 61,.fa 3 (.t 1),some (60,false)⟩::⟨some 62,.ld 1 false (.t 61),some (60,false)⟩::⟨some 63,.fa 2 (.t 1),some (60,false)⟩::⟨some 64,.ld 1 false (.t 63),some (60,false)⟩::⟨some 65,.ln (.t 64),some (60,false)⟩::⟨some 66,.ia 1 (.t 62) (.t 65),some (60,false)⟩::⟨some 67,.ld 1 false (.t 66),some (60,false)⟩::⟨some 68,.mv (.t 3),some (60,false)⟩::⟨some 69,.bin .neq (.t 67) (.t 68),some (60,false)⟩::⟨some 70,.pick (.t 60) (.c (.bool true)) (.t 69),none⟩::[])) (.cond (.t 70) (.seq (.reg (⟨some 2,.mv (.c (.bool false)),none⟩::[])) .ret) .skip)) (.seq (.seq (.reg (⟨some 71,.fa 2 (.t 1),none⟩::⟨some 72,.ld 1 false (.t 71),none⟩::⟨some 73,.ln (.t 72),none⟩::⟨some 74,.mv (.c (.int .i64 0)),none⟩::[])) (.block 0 (.loop (.seq (.reg (⟨some 75,.bin .lss (.t 74) (.t 73),none⟩::[])) (.seq (.cond (.t 75) .skip (.exit 0)) (.seq (.block 1 (.seq (.reg (⟨some 76,.mv (.t 74),none⟩::⟨some 4,.mv (.t 76),none⟩::[])) (.seq (.draw (⟨some 77,.fa 4 (.t 1),none⟩::⟨some 78,.ld 1 false (.t 77),none⟩::⟨some 79,.fa 3 (.t 1),none⟩::⟨some 80,.ld 1 false (.t 79),none⟩::⟨some 81,.mv (.t 4),none⟩::⟨some 82,.ia 1 (.t 80) (.t 81),none⟩::⟨some 83,.ld 1 false (.t 82),none⟩::⟨some 84,.fa 3 (.t 1),none⟩::⟨some 85,.ld 1 false (.t 84),none⟩::⟨some 86,.mv (.t 4),none⟩::⟨some 87,.bin .add (.t 86) (.c (.int .i64 1)),none⟩::⟨some 88,.ia 1 (.t 85) (.t 87),none⟩::⟨some 89,.ld 1 false (.t 88),none⟩::⟨some 90,.sl 1 (.t 78) (some (.t 83)) (some (.t 89)) none,none⟩::⟨some 91,.fa 0 (.t 1),none⟩::⟨some 92,.ld 1 false (.t 91),none⟩::[]) (⟨some 93,.call (.c (.fn 145 [])) [(.t 90),(.t 92)],none⟩::⟨some 94,.un .not (.t 93),none⟩::[])) (.cond (.t 94) (.seq (.reg (⟨some 2,.mv (.c (.bool false)),none⟩::[])) .ret) .skip)))) (.reg (⟨some 95,.bin .add (.t 74) (.c (.int .i64 1)),none⟩::⟨some 74,.mv (.t 95),none⟩::[])))))))) (.seq (.reg (⟨some 2,.mv (.c (.bool true)),none⟩::[])) .ret))))))
theorem cd_dcsc_Right : Code1 Tryz.prog 113 96 ir_dcsc_Right [.t 2]:=⟨Tryz.call113,_,_,Tryz.func113,rfl,by kernel_rfl,by kernel_rfl,by kernel_rfl,by kernel_rfl⟩
set_option maxHeartbeats 2000000 in
theorem fs_dcRight {rows cols : Int} {jc cp ir num : List Int} (hT : OkC rows cols jc cp ir num) : FS Tryz.prog 113 [DX rows cols jc cp ir num] (.bool true):=by
  refine fs_of_cvc mixed cd_dcsc_Right (by simp) ?_
  have q1:=hT.r
  have q2:=hT.c
  have q3:=hT.lc
  have q4:=hT.ln
  have q5:=hT.nl
  have q6:=hT.lj
  have z1:=zs_len jc
  have z2:=zs_len cp
  have z3:=zs_len ir
  have z4:=zs_len num
  have c1 : FS Tryz.prog 144 [.int .i64 rows,.int .i64 4096] (.bool true):=by
    have:=fs_dwithin rows 4096
    rwa [decide_eq_true q1] at this
  have c2 : FS Tryz.prog 144 [.int .i64 cols,.int .i64 4096] (.bool true):=by
    have:=fs_dwithin cols 4096
    rwa [decide_eq_true q2] at this
  have c3:=fs_drising jc cols hT.jr (by omega) (by omega)
  have c4 : FS Tryz.prog 145 [Z cp,.int .i64 (((zs ir).length : Int) + 1)] (.bool true):=by
    rw [z3]; exact fs_drising cp (ir.length + 1) hT.cr (by omega) (by omega)
  have g0:=hT.c0
  have gn:=hT.cn
  repeat' (conv=>whnf); first |(refine zs_go (i:=0) rfl g0 ?_) |(refine zs_go (i:=jc.length) (by omega) gn ?_) |(refine Or.inl ⟨by rfl,_,c1,?_⟩) |(refine Or.inl ⟨by rfl,_,c2,?_⟩) |(refine Or.inl ⟨by rfl,_,c3,?_⟩) |(refine Or.inl ⟨by rfl,_,c4,?_⟩) | refine Br.ff ?_ |(refine Br.dec (fun h=>?_) (fun h=>?_)) <;> try (exfalso; omega) | refine And.intro rfl ?_ |(refine And.intro (by omega) ?_) |(refine ⟨_,Or.inl ⟨⟨by omega,by omega⟩,rfl⟩,?_⟩) | fail
  refine ⟨Nat,fun k=>k <= jc.length,fun k=>[(1,.ptr 0 0 0 0),(73,.int .i64 (jc.length : Int)),(74,.int .i64 (k : Int))],fun k=>[.vars [.int .i64 rows,.int .i64 cols,Z jc,Z cp,Z ir,Z num]],fun _=>none,fun k=>jc.length - k,⟨0,Nat.zero_le _,⟨rfl,?_,rfl,trivial⟩,⟨⟨rfl,rfl,rfl,rfl,rfl,rfl,trivial⟩,trivial⟩,rfl⟩,fun k hk=>?_⟩
  . show SV.int .i64 _ = SV.int .i64 _
    rw [zs_len]
  have hk' : k <= jc.length:=hk
  by_cases hkl : k < jc.length
  . obtain ⟨a,ha⟩ : ∃ a,cp.getD k 0 = a:=⟨_,rfl⟩
    obtain ⟨b,hb⟩ : ∃ b,cp.getD (k + 1) 0 = b:=⟨_,rfl⟩
    have r1:=hT.cr k (by omega)
    have r2:=hT.cr (k + 1) (by omega)
    rw [ha] at r1
    rw [hb,Nat.add_sub_cancel,ha] at r2
    have hs:=hT.seg k hkl
    rw [ha,hb] at hs
    have hab:=r2.2 (by omega)
    have hz : List.drop a.toNat (List.take b.toNat (zs ir)) = zs ((ir.take b.toNat).drop a.toNat):=by simp [zs,List.map_drop,List.map_take]
    have c5 : FS Tryz.prog 145 [.slc 1 (List.drop a.toNat (List.take b.toNat (zs ir))),.int .i64 rows] (.bool true):=by
      rw [hz]
      exact fs_drising _ rows hs (by simp; omega) (by omega)
    repeat' (conv=>whnf); first |(refine zs_go (i:=k) (by omega) ha ?_) |(refine zs_go (i:=k + 1) (by omega) hb ?_) |(refine Or.inl ⟨by rfl,_,c5,?_⟩) | refine Br.ff ?_ |(refine Br.dec (fun h=>?_) (fun h=>?_)) <;> try (exfalso; omega) | refine And.intro rfl ?_ |(refine And.intro (by omega) ?_) |(refine ⟨_,Or.inl ⟨⟨by omega,by omega⟩,rfl⟩,?_⟩) | fail
    all_goals exact ⟨k + 1,(show k + 1 <= jc.length by omega),(show jc.length - (k + 1) < jc.length - k by omega),⟨rfl,rfl,rfl,trivial⟩,⟨⟨rfl,rfl,rfl,rfl,rfl,rfl,trivial⟩,trivial⟩,rfl⟩
  . repeat' (conv=>whnf); first |(refine Br.dec (fun h=>?_) (fun h=>?_)) <;> try (exfalso; omega) | refine And.intro rfl ?_ | fail
    exact rfl
def ir_dcsc_sure : IR :=
(.seq (.reg (⟨some 1,.bx (.t 0),none⟩::⟨some 2,.al [.int .i64 0,.int .i64 0,.nils,.nils,.nils,.nils],none⟩::[])) (.seq (.seq (.reg (⟨some 3,.ld 6 true (.t 1),none⟩::⟨some 4,.call (.c (.fn 113 [])) [(.t 3)],none⟩::[])) (.cond (.t 4) (.seq (.reg (⟨some 5,.ld 6 true (.t 1),none⟩::⟨none,.st 6 (.t 2) (.t 5),none⟩::[])) .ret) .skip)) (.seq (.reg (⟨some 6,.call (.c (.fn 32 [])) [],none⟩::⟨none,.st 6 (.t 2) (.t 6),none⟩::[])) .ret)))
theorem cd_dcsc_sure : Code1 Tryz.prog 89 7 ir_dcsc_sure [.c 6 true 2]:=⟨Tryz.call89,_,_,Tryz.func89,rfl,by kernel_rfl,by kernel_rfl,by kernel_rfl,by kernel_rfl⟩
theorem fs_dcsure {rows cols : Int} {jc cp ir num : List Int} (hT : OkC rows cols jc cp ir num) : FS Tryz.prog 89 [DX rows cols jc cp ir num] (DX rows cols jc cp ir num):=by
  refine fs_of_cvc mixed cd_dcsc_sure (by simp) ?_
  have c1:=fs_dcRight hT
  repeat' (conv=>whnf); first |(refine Or.inl ⟨by rfl,_,c1,?_⟩) |(refine And.intro (show _ <= _ from Nat.le_of_ble_eq_true rfl) ?_) | refine Br.tt ?_ | refine And.intro rfl ?_ | fail
  exact rfl
theorem ris_lt {l : List Int} {n : Int} (h : RisN l n) : ∀ (d i : Nat),i + d + 1 < l.length -> l.getD i 0 < l.getD (i + d + 1) 0
  | 0,i,hi=>(h (i + 1) hi).2 (by omega)
  | d + 1, i, hi => by
    have h1:=ris_lt h d i (by omega)
    have h2:=(h (i + (d + 1) + 1) hi).2 (by omega)
    rw [show i + (d + 1) + 1 - 1 = i + d + 1 by omega] at h2
    omega
theorem ris_lt' {l : List Int} {n : Int} (h : RisN l n) {i j : Nat} (hij : i < j) (hj : j < l.length) : l.getD i 0 < l.getD j 0:=by
  have:=ris_lt h (j - i - 1) i (by omega)
  rwa [show i + (j - i - 1) + 1 = j by omega] at this
def PlcC (jc : List Int) (a p : Int) : Prop:=(∃ k : Nat,k < jc.length /\ jc.getD k 0 = a /\ p = k) \/ ((∀ k,k < jc.length -> jc.getD k 0 ≠ a) /\ p = -1)
def ir_dcsc_place : IR :=
(.seq (.reg (⟨some 2,.bx (.t 0),none⟩::⟨some 4,.mv (.c (.int .i64 0)),none⟩::[])) (.seq (.draw (⟨some 8,.fa 2 (.t 2),none⟩::⟨some 9,.ld 1 false (.t 8),none⟩::⟨some 10,.ln (.t 9),none⟩::⟨some 5,.mv (.c (.int .i64 0)),none⟩::[]) (⟨some 6,.mv (.t 10),none⟩::[])) (.seq .skip (.seq (.block 0 (.loop (.seq (.seq (.reg (⟨some 11,.mv (.t 5),none⟩::⟨some 12,.mv (.t 6),none⟩::⟨some 13,.bin .lss (.t 11) (.t 12),none⟩::[])) (.cond (.t 13) .skip (.exit 0))) (.block 1 (.seq (.reg (⟨some 14,.mv (.t 5),none⟩::⟨some 15,.mv (.t 6),none⟩::⟨some 16,.mv (.t 5),none⟩::⟨some 17,.bin .sub (.t 15) (.t 16),none⟩::⟨some 18,.bin .quo (.t 17) (.c (.int .i64 2)),none⟩::⟨some 19,.bin .add (.t 14) (.t 18),none⟩::⟨some 7,.mv (.t 19),none⟩::[])) (.block 2 (.seq (.reg (⟨some 22,.fa 2 (.t 2),none⟩::⟨some 23,.ld 1 false (.t 22),none⟩::⟨some 24,.mv (.t 7),none⟩::⟨some 25,.ia 1 (.t 23) (.t 24),none⟩::⟨some 26,.ld 1 false (.t 25),none⟩::⟨some 27,.mv (.t 1),none⟩::⟨some 28,.bin .eql (.t 26) (.t 27),none⟩::⟨some 21,.mv (.t 28),none⟩::[])) (.cond (.t 21) (.seq (.reg (⟨some 29,.mv (.t 7),none⟩::⟨some 5,.mv (.t 29),none⟩::[])) (.exit 0)) (.seq (.reg (⟨some 31,.fa 2 (.t 2),none⟩::⟨some 32,.ld 1 false (.t 31),none⟩::⟨some 33,.mv (.t 7),none⟩::⟨some 34,.ia 1 (.t 32) (.t 33),none⟩::⟨some 35,.ld 1 false (.t 34),none⟩::⟨some 36,.mv (.t 1),none⟩::⟨some 37,.bin .lss (.t 35) (.t 36),none⟩::⟨some 30,.mv (.t 37),none⟩::[])) (.cond (.t 30) (.reg (⟨some 38,.mv (.t 7),none⟩::⟨some 39,.bin .add (.t 38) (.c (.int .i64 1)),none⟩::⟨some 5,.mv (.t 39),none⟩::[])) (.reg (⟨some 20,.mv (.t 7),none⟩::⟨some 6,.mv (.t 20),none⟩::[])))))))))))) (.seq (.seq (.reg (⟨some 40,.mv (.t 5),none⟩::⟨some 41,.mv (.t 6),none⟩::⟨some 42,.bin .lss (.t 40) (.t 41),none⟩::[])) (.cond (.t 42) (.seq (.reg (⟨some 43,.mv (.t 5),none⟩::⟨some 4,.mv (.t 43),none⟩::[])) .ret) .skip)) (.seq (.reg (⟨some 4,.mv (.c (.int .i64 (-1))),none⟩::[])) .ret))))))
theorem cd_dcsc_place : Code1 Tryz.prog 90 44 ir_dcsc_place [.t 4]:=⟨Tryz.call90,_,_,Tryz.func90,rfl,by kernel_rfl,by kernel_rfl,by kernel_rfl,by kernel_rfl⟩
set_option maxHeartbeats 2000000 in
theorem fs_dplace {rows cols : Int} {jc cp ir num : List Int} (hT : OkC rows cols jc cp ir num) {a p : Int} (hp : PlcC jc a p) : FS Tryz.prog 90 [DX rows cols jc cp ir num,.int .i64 a] (.int .i64 p):=by
  refine fs_of_cvc mixed cd_dcsc_place (by simp) ?_
  have q6:=hT.lj
  have z1:=zs_len jc
  repeat' (conv=>whnf); first | fail
  refine ⟨Nat × Nat,fun s=>s.1 <= s.2 /\ s.2 <= jc.length /\ (∀ k,k < s.1 -> jc.getD k 0 < a) /\ (∀ k,s.2 <= k -> k < jc.length -> a < jc.getD k 0),fun s=>[(1,.int .i64 a),(2,.ptr 0 0 0 0),(5,.int .i64 (s.1 : Int)),(6,.int .i64 (s.2 : Int))],fun s=>[.vars [.int .i64 rows,.int .i64 cols,Z jc,Z cp,Z ir,Z num]],fun _=>none,fun s=>s.2 - s.1,⟨(0,jc.length),⟨Nat.zero_le _,Nat.le_refl _,fun k hk=>by omega,fun k h1 h2=>by omega⟩,⟨rfl,rfl,rfl,?_,trivial⟩,⟨⟨rfl,rfl,rfl,rfl,rfl,rfl,trivial⟩,trivial⟩,rfl⟩,fun s hs=>?_⟩
  . show SV.int .i64 _ = SV.int .i64 _
    rw [zs_len]
  obtain ⟨h1,h2,h3,h4⟩:=hs
  by_cases hlt : s.1 < s.2
  . obtain ⟨m,hm⟩ : ∃ m,s.1 + (s.2 - s.1) / 2 = m:=⟨_,rfl⟩
    have em : (s.1 : Int) + ((s.2 : Int) - (s.1 : Int)).tdiv 2 = (m : Int):=by
      rw [Int.tdiv_eq_ediv_of_nonneg (by omega)]; omega
    have hml : m < s.2:=by omega
    have hmg : s.1 <= m:=by omega
    obtain ⟨y,hy⟩ : ∃ y,jc.getD m 0 = y:=⟨_,rfl⟩
    have hpm : y = a -> p = (m : Int):=fun hya=>by
      rcases hp with ⟨k,hk,he,hpk⟩ | ⟨hno,_⟩
      . rcases Nat.lt_trichotomy k m with hkm | hkm | hkm
        . have:=ris_lt' hT.jr hkm (by omega); omega
        . subst hkm; exact hpk
        . have:=ris_lt' hT.jr hkm hk; omega
      . exact absurd (hy.trans hya) (hno m (by omega))
    repeat' (conv=>whnf); first |(refine zs_go (i:=m) (by omega) hy ?_) |(refine Br.dec (fun h=>?_) (fun h=>?_)) <;> try (exfalso; omega) | refine And.intro rfl ?_ |(refine And.intro (by omega) ?_) |(refine ⟨_,Or.inl ⟨⟨by omega,by omega⟩,rfl⟩,?_⟩) | fail
    . rename_i hya
      show SV.int .i64 ((s.1 : Int) + ((s.2 : Int) - (s.1 : Int)).tdiv 2) = SV.int .i64 p
      rw [em,hpm hya]
    . refine ⟨(m + 1,s.2),⟨(show m + 1 <= s.2 by omega),h2,fun k hk=>?_,h4⟩,(show s.2 - (m + 1) < s.2 - s.1 by omega),⟨rfl,rfl,?_,rfl,trivial⟩,⟨⟨rfl,rfl,rfl,rfl,rfl,rfl,trivial⟩,trivial⟩,rfl⟩
      . have hk' : k < m + 1:=hk
        rcases Nat.lt_or_ge k m with h' | h'
        . have:=ris_lt' hT.jr h' (by omega); omega
        . obtain rfl : k = m:=by omega
          omega
      . show SV.int .i64 ((s.1 : Int) + ((s.2 : Int) - (s.1 : Int)).tdiv 2 + 1) = SV.int .i64 ((m + 1 : Nat) : Int)
        rw [em]; rfl
    . rename_i hya
      refine ⟨(s.1,m),⟨hmg,(show m <= jc.length by omega),h3,fun k hk hkl=>?_⟩,(show m - s.1 < s.2 - s.1 by omega),⟨rfl,rfl,rfl,?_,trivial⟩,⟨⟨rfl,rfl,rfl,rfl,rfl,rfl,trivial⟩,trivial⟩,rfl⟩
      . have hk' : m <= k:=hk
        rcases Nat.lt_or_ge m k with h' | h'
        . have:=ris_lt' hT.jr h' hkl; omega
        . obtain rfl : k = m:=by omega
          omega
      . show SV.int .i64 ((s.1 : Int) + ((s.2 : Int) - (s.1 : Int)).tdiv 2) = SV.int .i64 (m : Int)
        rw [em]
  . repeat' (conv=>whnf); first |(refine Br.dec (fun h=>?_) (fun h=>?_)) <;> try (exfalso; omega) | refine And.intro rfl ?_ | fail
    show SV.int .i64 (-1) = SV.int .i64 p
    rcases hp with ⟨k,hk,he,_⟩ | ⟨_,hp1⟩
    . exfalso
      rcases Nat.lt_or_ge k s.1 with h' | h'
      . have:=h3 k h'; omega
      . have:=h4 k (by omega) hk; omega
    . rw [hp1]
end
section
open Go.RowKit
attribute [local irreducible] FS FO IT HS
def aggs (l : List (Int × Int)) : List (List SV):=l.map fun x=>[.agg [.int .i64 x.1,.int .i64 x.2]]
theorem aggs_len (l : List (Int × Int)) : (aggs l).length = l.length:=by simp [aggs]
def segC (ir num : List Int) (a b : Nat) : List (Int × Int):=(List.range (b - a)).map fun j=>(ir.getD (a + j) 0,num.getD (a + j) 0)
theorem seg_len (ir num : List Int) (a b : Nat) : (segC ir num a b).length = b - a:=by simp [segC]
def ir_dcsc_items_1 : IR :=
(.seq (.reg (⟨some 5,.fa 3 (.t 1),none⟩::⟨some 6,.ld 1 false (.t 5),none⟩::⟨some 7,.ld 1 false (.t 2),none⟩::⟨some 8,.ia 1 (.t 6) (.t 7),none⟩::⟨some 9,.ld 1 false (.t 8),none⟩::⟨some 4,.mv (.t 9),none⟩::[])) (.block 0 (.loop (.seq (.seq (.reg (⟨some 10,.mv (.t 4),none⟩::⟨some 11,.fa 3 (.t 1),none⟩::⟨some 12,.ld 1 false (.t 11),none⟩::⟨some 13,.ld 1 false (.t 2),none⟩::⟨some 14,.bin .add (.t 13) (.c (.int .i64 1)),none⟩::⟨some 15,.ia 1 (.t 12) (.t 14),none⟩::⟨some 16,.ld 1 false (.t 15),none⟩::⟨some 17,.bin .lss (.t 10) (.t 16),none⟩::[])) (.cond (.t 17) .skip (.exit 0))) (.seq (.block 1 (.seq (.draw (⟨some 20,.mv (.t 0),none⟩::⟨some 21,.fa 4 (.t 1),none⟩::⟨some 22,.ld 1 false (.t 21),none⟩::⟨some 23,.mv (.t 4),none⟩::⟨some 24,.ia 1 (.t 22) (.t 23),none⟩::⟨some 25,.ld 1 false (.t 24),none⟩::⟨some 26,.fa 5 (.t 1),none⟩::⟨some 27,.ld 1 false (.t 26),none⟩::⟨some 28,.mv (.t 4),none⟩::⟨some 29,.ia 1 (.t 27) (.t 28),none⟩::⟨some 30,.ld 1 false (.t 29),none⟩::⟨some 31,.bld [.int .i64 0,.int .i64 0] [(0,1,(.t 25)),(1,1,(.t 30))],none⟩::[]) (⟨some 32,.call (.t 20) [(.t 31)],none⟩::⟨some 33,.un .not (.t 32),none⟩::[])) (.cond (.t 33) .ret .skip))) (.reg (⟨some 18,.mv (.t 4),none⟩::⟨some 19,.bin .add (.t 18) (.c (.int .i64 1)),none⟩::⟨some 4,.mv (.t 19),none⟩::[])))))))
theorem cd_dcsc_items_1 : Code1 Tryz.prog 149 34 ir_dcsc_items_1 []:=⟨Tryz.call149,_,_,Tryz.func149,rfl,by kernel_rfl,by kernel_rfl,by kernel_rfl,by kernel_rfl⟩
set_option maxHeartbeats 2000000 in
theorem it_items {rows cols : Int} {jc cp ir num : List Int} (hT : OkC rows cols jc cp ir num) {k a b : Nat} (hk : k < jc.length) (ha : cp.getD k 0 = (a : Int)) (hb : cp.getD (k + 1) 0 = (b : Int)) : IT Tryz.prog 149 [.box [.int .i64 rows,.int .i64 cols,Z jc,Z cp,Z ir,Z num] 0,.box [.int .i64 (k : Int)] 0] [] (aggs (segC ir num a b)):=by
  refine it_of_cvc mixed cd_dcsc_items_1 (ks:=[]) (by simp) fun l=>?_
  have q3:=hT.lc
  have q4:=hT.ln
  have q5:=hT.nl
  have q6:=hT.lj
  have z2:=zs_len cp
  have z3:=zs_len ir
  have z4:=zs_len num
  have r2:=hT.cr (k + 1) (by omega)
  rw [hb,Nat.add_sub_cancel,ha] at r2
  have hab:=r2.2 (by omega)
  have hsl:=seg_len ir num a b
  have hal:=aggs_len (segC ir num a b)
  repeat' (conv=>whnf); first |(refine zs_go (i:=k) (by omega) ha ?_) | refine And.intro rfl ?_ |(refine And.intro (by omega) ?_) | fail
  refine ⟨Nat,fun j=>a <= j /\ j <= b,fun j=>[(0,.raw (.func (.yield l) #[] #[])),(1,.box [.int .i64 rows,.int .i64 cols,Z jc,Z cp,Z ir,Z num] 0),(2,.box [.int .i64 (k : Int)] 0),(4,.int .i64 (j : Int))],fun _=>[],fun j=>some (j - a),fun j=>b - j,
    ⟨a,⟨Nat.le_refl _,by omega⟩,⟨rfl,rfl,rfl,rfl,trivial⟩,trivial,congrArg some (Nat.sub_self a).symm⟩,fun j hj=>?_⟩
  obtain ⟨h1,h2⟩:=hj
  by_cases hjb : j < b
  . obtain ⟨x,hx⟩ : ∃ x,ir.getD j 0 = x:=⟨_,rfl⟩
    obtain ⟨y,hy⟩ : ∃ y,num.getD j 0 = y:=⟨_,rfl⟩
    have hget : (aggs (segC ir num a b))[j - a]? = some [.agg [.int .i64 x,.int .i64 y]]:=by
      unfold aggs segC
      rw [List.getElem?_map,List.getElem?_map,List.getElem?_range (by omega)]
      simp only [Option.map_some,show a + (j - a) = j by omega,hx,hy]
    repeat' (conv=>whnf); first |(refine ⟨j - a,rfl,hget,?_,?_⟩) |(refine zs_go (i:=k + 1) (by omega) hb ?_) |(refine zs_go (i:=j) (by omega) hx ?_) |(refine zs_go (i:=j) (by omega) hy ?_) |(refine And.intro (show _ <= _ from Nat.le_of_ble_eq_true rfl) ?_) | refine Br.tt ?_ | refine Br.ff ?_ |(refine Br.dec (fun h=>?_) (fun h=>?_)) <;> try (exfalso; omega) | refine And.intro rfl ?_ |(refine And.intro (by omega) ?_) |(refine ⟨_,Or.inl ⟨⟨by omega,by omega⟩,rfl⟩,?_⟩) | fail
    . exact ⟨j + 1,⟨by omega,by omega⟩,(show b - (j + 1) < b - j by omega),⟨rfl,rfl,rfl,rfl,trivial⟩,trivial,congrArg some (show j - a + 1 = j + 1 - a by omega)⟩
    . exact Or.inr rfl
  . repeat' (conv=>whnf); first |(refine zs_go (i:=k + 1) (by omega) hb ?_) |(refine Br.dec (fun h=>?_) (fun h=>?_)) <;> try (exfalso; omega) | refine And.intro rfl ?_ |(refine And.intro (by omega) ?_) |(refine ⟨_,Or.inl ⟨⟨by omega,by omega⟩,rfl⟩,?_⟩) | fail
    exact Or.inl (congrArg some (show j - a = _ by rw [hal,hsl]; omega))
def ir_slices_AppendSeq_api_Item_api_Item : IR :=
(.seq (.reg (⟨some 2,.bx (.t 0),none⟩::⟨some 4,.mv (.c (.nils)),none⟩::[])) (.seq (.seq (.reg (⟨some 6,.mv (.t 1),none⟩::[])) (.block 0 (.rng (.t 6) [7] (.reg (⟨some 5,.al [.int .i64 0,.int .i64 0],none⟩::⟨none,.st 2 (.t 5) (.t 7),none⟩::[])) (.block 1 (.reg (⟨some 8,.ld 1 false (.t 2),none⟩::⟨some 9,.ld 2 true (.t 5),none⟩::⟨some 10,.bsl 1 2 [.int .i64 0,.int .i64 0] [(0,(.t 9))],none⟩::⟨some 11,.ap 2 16 (.t 8) (.t 10),none⟩::⟨none,.st 1 (.t 2) (.t 11),none⟩::[])))))) (.seq (.reg (⟨some 12,.ld 1 false (.t 2),none⟩::⟨some 4,.mv (.t 12),none⟩::[])) .ret)))
theorem cd_slices_AppendSeq_api_Item_api_Item : Code1 Tryz.prog 148 13 ir_slices_AppendSeq_api_Item_api_Item [.t 4]:=⟨Tryz.call148,_,_,Tryz.func148,rfl,by kernel_rfl,by kernel_rfl,by kernel_rfl,by kernel_rfl⟩
def ir_slices_Collect_api_Item : IR :=
(.seq (.reg (⟨some 2,.mv (.c (.nils)),none⟩::[])) (.seq (.reg (⟨some 3,.mv (.t 0),none⟩::⟨some 4,.call (.c (.fn 148 [])) [(.c (.nils)),(.t 3)],none⟩::⟨some 2,.mv (.t 4),none⟩::[])) .ret))
theorem cd_slices_Collect_api_Item : Code1 Tryz.prog 116 5 ir_slices_Collect_api_Item [.t 2]:=⟨Tryz.call116,_,_,Tryz.func116,rfl,by kernel_rfl,by kernel_rfl,by kernel_rfl,by kernel_rfl⟩
theorem fs_AppendI (g : FuncId) (caps : List SV) (hp : SV.pure.pureL caps = true) (l : List (Int × Int)) (hl : l.length <= 1000000000) (hit : IT Tryz.prog g caps [] (aggs l)) : FS Tryz.prog 148 [.nils,.fn g caps] (IL l):=by
  refine fs_of_cvc mixed cd_slices_AppendSeq_api_Item_api_Item (by simp) ?_
  have hil:=its_len l
  repeat' (conv=>whnf); first | refine And.intro rfl ?_ | fail
  refine ⟨[],[],caps,[],aggs l,fun k=>[.vars [.osl 1 2 0 k],.arr 2 (its (l.take k))],fun k=>k <= l.length,hit,(pure_rens (m:=0) caps hp).1,(pure_rens (m:=0) caps hp).2,rfl,rfl,List.nodup_nil,by simp,?_,by simp,fun k x hx hok=>?_,fun hok=>?_⟩
  . exact ⟨⟨⟨Nat.le_refl _,rfl,rfl⟩,trivial⟩,rfl,trivial⟩
  . obtain ⟨b,hb,rfl⟩ : ∃ b,l[k]? = some b /\ x = [.agg [.int .i64 b.1,.int .i64 b.2]]:=by
      simp only [aggs,List.getElem?_map,Option.map_eq_some_iff] at hx
      obtain ⟨b,h1,h2⟩:=hx
      exact ⟨b,h1,h2.symm⟩
    have hok' : k <= l.length:=hok
    have htk:=its_len (l.take k)
    have htk2 : (l.take k).length = k:=by rw [List.length_take]; omega
    refine ⟨rfl,?_⟩
    repeat' (conv=>whnf); first |((refine And.intro (fun y hy=>by rcases List.mem_singleton.1 hy with rfl; rfl) ?_)) |(refine And.intro (show _ <= _ from Nat.le_of_ble_eq_true rfl) ?_) | refine And.intro rfl ?_ |(refine And.intro (by omega) ?_) |(refine And.intro (by simp only [lens_all]; first | done | omega) ?_) | fail
    have hlt:=(List.getElem?_eq_some_iff.1 hb).1
    refine ⟨(show k + 1 <= l.length by omega),⟨rfl,trivial⟩,?_,Nat.le_of_ble_eq_true rfl,rfl⟩
    show Blk.arr 2 (its (l.take k) ++ [[.int .i64 b.1,.int .i64 b.2]]) = Blk.arr 2 (its (l.take (k + 1)))
    rw [List.take_add_one,hb]; simp [its]
  . repeat' (conv=>whnf); first | refine And.intro rfl ?_ |(refine And.intro (by simp only [lens_all,its_len]; first | done | omega) ?_) | fail
    show SV.slc 2 (List.take (aggs l).length (List.drop 0 (its (List.take (aggs l).length l)))) = IL l
    rw [List.drop_zero,aggs_len,List.take_length,<- its_len,List.take_length]
    rfl
theorem fs_CollectI (g : FuncId) (caps : List SV) (hp : SV.pure.pureL caps = true) (l : List (Int × Int)) (hl : l.length <= 1000000000) (hit : IT Tryz.prog g caps [] (aggs l)) : FS Tryz.prog 116 [.fn g caps] (IL l):=by
  refine fs_of_cvc mixed cd_slices_Collect_api_Item (by simp) ?_
  repeat' (conv=>whnf); first | fail
  refine Or.inl ⟨?_,_,fs_AppendI g caps hp l hl hit,?_⟩
  . show (true && (SV.pure.pureL caps && true)) = true
    rw [hp]; rfl
  . exact rfl
def ir_dcsc_items : IR :=
(.seq (.reg (⟨some 2,.bx (.t 0),none⟩::⟨some 3,.bx (.t 1),none⟩::⟨some 4,.mv (.c (.raw .nilFunc)),none⟩::[])) (.seq (.reg (⟨some 5,.fn 149 [(.t 2),(.t 3)],none⟩::⟨some 4,.mv (.t 5),none⟩::[])) .ret))
theorem cd_dcsc_items : Code1 Tryz.prog 117 6 ir_dcsc_items [.t 4]:=⟨Tryz.call117,_,_,Tryz.func117,rfl,by kernel_rfl,by kernel_rfl,by kernel_rfl,by kernel_rfl⟩
theorem fs_ditems (rows cols : Int) (jc cp ir num : List Int) (k : Int) : FS Tryz.prog 117 [DX rows cols jc cp ir num,.int .i64 k] (.fn 149 [.box [.int .i64 rows,.int .i64 cols,Z jc,Z cp,Z ir,Z num] 0,.box [.int .i64 k] 0]):=by
  refine fs_of_cvc mixed cd_dcsc_items (by simp) ?_
  repeat' (conv=>whnf); first | fail
  all_goals exact rfl
def ColC (jc cp ir num : List Int) (a : Int) (l : List (Int × Int)) : Prop:=(∃ k x y : Nat,k < jc.length /\ jc.getD k 0 = a /\ cp.getD k 0 = x /\ cp.getD (k + 1) 0 = y /\ l = segC ir num x y) \/ ((∀ k,k < jc.length -> jc.getD k 0 ≠ a) /\ l = [])
def ir_dcsc_Column : IR :=
(.seq (.reg (⟨some 2,.bx (.t 0),none⟩::⟨some 4,.mv (.c (.nils)),none⟩::[])) (.seq (.reg (⟨some 6,.ld 6 true (.t 2),none⟩::⟨some 7,.call (.c (.fn 89 [])) [(.t 6)],none⟩::⟨none,.st 6 (.t 2) (.t 7),none⟩::[])) (.seq (.reg (⟨some 8,.ld 6 true (.t 2),none⟩::⟨some 9,.mv (.t 1),none⟩::⟨some 10,.call (.c (.fn 90 [])) [(.t 8),(.t 9)],none⟩::⟨some 5,.mv (.t 10),none⟩::[])) (.seq (.seq (.reg (⟨some 11,.mv (.t 5),none⟩::⟨some 12,.bin .lss (.t 11) (.c (.int .i64 0)),none⟩::[])) (.cond (.t 12) (.seq (.reg (⟨some 4,.mv (.c (.nils)),none⟩::[])) .ret) .skip)) (.seq (.reg (⟨some 13,.ld 6 true (.t 2),none⟩::⟨some 14,.mv (.t 5),none⟩::⟨some 15,.call (.c (.fn 117 [])) [(.t 13),(.t 14)],none⟩::⟨some 16,.call (.c (.fn 116 [])) [(.t 15)],none⟩::⟨some 4,.mv (.t 16),none⟩::[])) .ret)))))
theorem cd_dcsc_Column : Code1 Tryz.prog 84 17 ir_dcsc_Column [.t 4]:=⟨Tryz.call84,_,_,Tryz.func84,rfl,by kernel_rfl,by kernel_rfl,by kernel_rfl,by kernel_rfl⟩
theorem fs_dColumn {rows cols : Int} {jc cp ir num : List Int} (hT : OkC rows cols jc cp ir num) {a : Int} {l : List (Int × Int)} (hl : ColC jc cp ir num a l) : FS Tryz.prog 84 [DX rows cols jc cp ir num,.int .i64 a] (IL l):=by
  refine fs_of_cvc mixed cd_dcsc_Column (by simp) ?_
  have c1:=fs_dcsure hT
  rcases hl with ⟨k,x,y,hk,he,hx,hy,rfl⟩ | ⟨hno,rfl⟩
  . have c2:=fs_dplace hT (a:=a) (p:=(k : Int)) (.inl ⟨k,hk,he,rfl⟩)
    have c3:=fs_ditems rows cols jc cp ir num (k : Int)
    have r2:=hT.cr (k + 1) (by have:=hT.lc; omega)
    rw [hy] at r2
    have hnl:=hT.nl
    have c4:=fs_CollectI 149 [.box [.int .i64 rows,.int .i64 cols,Z jc,Z cp,Z ir,Z num] 0,.box [.int .i64 (k : Int)] 0] (by rfl) _ (by rw [seg_len]; omega) (it_items hT hk hx hy)
    repeat' (conv=>whnf); first |(refine Or.inl ⟨by rfl,_,c1,?_⟩) |(refine Or.inl ⟨by rfl,_,c2,?_⟩) |(refine Or.inl ⟨by rfl,_,c3,?_⟩) |(refine Or.inl ⟨by rfl,_,c4,?_⟩) |(refine And.intro (show _ <= _ from Nat.le_of_ble_eq_true rfl) ?_) | refine Br.ff ?_ | refine And.intro rfl ?_ | fail
    all_goals exact rfl
  . have c2:=fs_dplace hT (a:=a) (p:=-1) (.inr ⟨hno,rfl⟩)
    repeat' (conv=>whnf); first |(refine Or.inl ⟨by rfl,_,c1,?_⟩) |(refine Or.inl ⟨by rfl,_,c2,?_⟩) |(refine And.intro (show _ <= _ from Nat.le_of_ble_eq_true rfl) ?_) | refine Br.tt ?_ | refine And.intro rfl ?_ | fail
    all_goals exact rfl
end
section
open Go.RowKit
attribute [local irreducible] FS FO IT HS
def colF (r v : Int) (g : List Nat) (o : Bool) (x : Int × Int) : Option (Int × Int):=if (hasI g x.1 != o) = true then some (x.1,rMul r x.2 v) else none
def colR (r v : Int) (g : List Nat) (o : Bool) (l : List (Int × Int)) : List (Int × Int):=l.filterMap (colF r v g o)
theorem colR_more {r v : Int} {g : List Nat} {o : Bool} {l : List (Int × Int)} {k : Nat} {x : Int × Int} (h : l[k]? = some x) : colR r v g o (l.take (k + 1)) = colR r v g o (l.take k) ++ (colF r v g o x).toList:=by
  unfold colR
  rw [List.take_add_one,h,List.filterMap_append]
  cases hc : colF r v g o x <;> simp [hc]
theorem colR_le (r v : Int) (g : List Nat) (o : Bool) (l : List (Int × Int)) : (colR r v g o l).length <= l.length:=List.length_filterMap_le _ _
def ir_push_column : IR :=
(.seq (.reg (⟨some 10,.mv (.c (.nils)),none⟩::[])) (.seq (.reg (⟨some 11,.mv (.c (.nils)),none⟩::[])) (.seq (.seq (.reg (⟨some 14,.mv (.t 1),none⟩::⟨some 15,.ln (.t 14),none⟩::⟨some 16,.mv (.c (.int .i64 0)),none⟩::[])) (.block 0 (.loop (.seq (.reg (⟨some 17,.bin .lss (.t 16) (.t 15),none⟩::[])) (.seq (.cond (.t 17) .skip (.exit 0)) (.seq (.block 1 (.seq (.reg (⟨some 18,.ia 2 (.t 14) (.t 16),none⟩::⟨some 19,.ld 2 true (.t 18),none⟩::⟨some 13,.al [.int .i64 0,.int .i64 0],none⟩::⟨none,.st 2 (.t 13) (.t 19),none⟩::[])) (.seq (.reg (⟨some 20,.mv (.t 3),none⟩::⟨some 21,.fa 0 (.t 13),none⟩::⟨some 22,.ld 1 false (.t 21),none⟩::⟨some 23,.call (.c (.fn 114 [])) [(.t 20),(.t 22)],none⟩::⟨some 24,.mv (.t 4),none⟩::⟨some 25,.beq true (.t 23) (.t 24),none⟩::[])) (.cond (.t 25) (.draw (⟨some 26,.mv (.t 11),none⟩::⟨some 27,.fa 0 (.t 13),none⟩::⟨some 28,.ld 1 false (.t 27),none⟩::⟨some 29,.mv (.t 0),none⟩::⟨some 30,.fa 1 (.t 13),none⟩::⟨some 31,.ld 1 false (.t 30),none⟩::⟨some 32,.mv (.t 2),none⟩::⟨some 33,.call (.c (.fn 115 [])) [(.t 29),(.t 31),(.t 32)],none⟩::⟨some 34,.bld [.int .i64 0,.int .i64 0,.int .u64 0] [(0,1,(.t 28)),(1,2,(.t 33))],none⟩::⟨some 35,.bsl 1 3 [.int .i64 0,.int .i64 0,.int .u64 0] [(0,(.t 34))],none⟩::[]) (⟨some 36,.ap 3 24 (.t 26) (.t 35),none⟩::⟨some 11,.mv (.t 36),none⟩::[])) .skip)))) (.reg (⟨some 37,.bin .add (.t 16) (.c (.int .i64 1)),none⟩::⟨some 16,.mv (.t 37),none⟩::[])))))))) (.seq (.reg (⟨some 38,.mv (.t 11),none⟩::⟨some 10,.mv (.t 38),none⟩::[])) .ret))))
theorem cd_push_column : Code1 Tryz.prog 83 39 ir_push_column [.t 10]:=⟨Tryz.call83,_,_,Tryz.func83,rfl,by kernel_rfl,by kernel_rfl,by kernel_rfl,by kernel_rfl⟩
set_option maxHeartbeats 2000000 in
theorem fs_pcolumn (r v : Int) (g : List Nat) (o : Bool) (l : List (Int × Int)) (hg : Wd g) (hl : l.length <= 1000000) (hv : I64 v) (hix : ∀ x ∈ l,0 <= x.1 /\ x.1 <= 1000000 /\ I64 x.2) : FS Tryz.prog 83 [.int .i64 r,IL l,.int .i64 v,U g,.bool o] (SM (colR r v g o l)):=by
  refine fs_of_cvc mixed cd_push_column (by simp) ?_
  have hil:=its_len l
  repeat' (conv=>whnf); first | fail
  refine ⟨Nat,fun k=>k <= l.length,fun k=>[(0,.int .i64 r),(2,.int .i64 v),(3,U g),(4,.bool o),(11,.osl 0 3 0 (colR r v g o (l.take k)).length),(14,IL l),(15,.int .i64 (l.length : Int)),(16,.int .i64 (k : Int))],fun k=>[.arr 3 (sms (colR r v g o (l.take k)))],fun _=>none,fun k=>l.length - k,⟨0,Nat.zero_le _,⟨rfl,rfl,rfl,rfl,⟨Nat.le_refl _,rfl,rfl⟩,rfl,?_,rfl,trivial⟩,⟨rfl,trivial⟩,rfl⟩,fun k hk=>?_⟩
  . show SV.int .i64 _ = SV.int .i64 _
    rw [its_len]
  have hk' : k <= l.length:=hk
  by_cases hkl : k < l.length
  . obtain ⟨x,hx⟩ : ∃ x,l.getD k (0,0) = x:=⟨_,rfl⟩
    have hxi : l[k]? = some x:=by rw [<- hx]; exact getD_some hkl
    have hxm:=hix x (List.mem_of_getElem? hxi)
    have hmore:=colR_more (r:=r) (v:=v) (g:=g) (o:=o) hxi
    have hle:=colR_le r v g o (l.take k)
    have htk : (l.take k).length = k:=by rw [List.length_take]; omega
    have hsm:=sms_len (colR r v g o (l.take k))
    have c1:=fs_Has g hg x.1 (by omega)
    have c2:=fs_rMul r x.2 v hxm.2.2 hv
    obtain ⟨b,hb⟩ : ∃ b,hasI g x.1 = b:=⟨_,rfl⟩
    rw [hb] at c1
    by_cases hbo : (b != o) = true
    . have hcf : colF r v g o x = some (x.1,rMul r x.2 v):=by rw [colF,hb,if_pos hbo]
      rw [hcf] at hmore
      cases b <;> cases o <;> simp at hbo
      all_goals
        repeat' (conv=>whnf); first |(refine Or.inl ⟨by rfl,_,c1,?_⟩) |(refine Or.inl ⟨by rfl,_,c2,?_⟩) |(refine its_go' (i:=k) (by omega) hx ?_) |(refine And.intro (show _ <= _ from Nat.le_of_ble_eq_true rfl) ?_) |((refine And.intro (fun y hy=>by rcases List.mem_singleton.1 hy with rfl; rfl) ?_)) | refine Br.tt ?_ |(refine Br.dec (fun h=>?_) (fun h=>?_)) <;> try (exfalso; omega) | refine And.intro rfl ?_ |(refine And.intro (by omega) ?_) |(refine ⟨_,Or.inl ⟨⟨by omega,by omega⟩,rfl⟩,?_⟩) |(refine And.intro (by simp only [lens_all]; first | done | omega) ?_) | fail
        refine ⟨k + 1,(show k + 1 <= l.length by omega),(show l.length - (k + 1) < l.length - k by omega),⟨rfl,rfl,rfl,rfl,?_,rfl,rfl,rfl,trivial⟩,⟨?_,Nat.le_of_ble_eq_true rfl,rfl,rfl⟩,rfl⟩
        . show SV.osl 0 3 0 ((colR r v g _ (l.take k)).length + 1) = SV.osl 0 3 0 (colR r v g _ (l.take (k + 1))).length
          rw [hmore]; simp
        . show Blk.arr 3 (sms (colR r v g _ (l.take k)) ++ [[.int .i64 x.1,.int .i64 (hi (rMul r x.2 v)),.int .u64 (lo (rMul r x.2 v))]]) = Blk.arr 3 (sms (colR r v g _ (l.take (k + 1))))
          rw [hmore,sms_append]; rfl
    . have hcf : colF r v g o x = none:=by rw [colF,hb,if_neg hbo]
      rw [hcf] at hmore
      cases b <;> cases o <;> simp at hbo
      all_goals
        repeat' (conv=>whnf); first |(refine Or.inl ⟨by rfl,_,c1,?_⟩) |(refine its_go' (i:=k) (by omega) hx ?_) |(refine And.intro (show _ <= _ from Nat.le_of_ble_eq_true rfl) ?_) |(refine Br.bne (by rfl) ?_) |(refine Br.dec (fun h=>?_) (fun h=>?_)) <;> try (exfalso; omega) | refine And.intro rfl ?_ |(refine And.intro (by omega) ?_) |(refine ⟨_,Or.inl ⟨⟨by omega,by omega⟩,rfl⟩,?_⟩) | fail
        refine ⟨k + 1,(show k + 1 <= l.length by omega),(show l.length - (k + 1) < l.length - k by omega),⟨rfl,rfl,rfl,rfl,?_,rfl,rfl,rfl,trivial⟩,⟨?_,Nat.le_of_ble_eq_true rfl,rfl,rfl⟩,rfl⟩
        . show SV.osl 0 3 0 (colR r v g _ (l.take k)).length = SV.osl 0 3 0 (colR r v g _ (l.take (k + 1))).length
          rw [hmore]; simp
        . show Blk.arr 3 (sms (colR r v g _ (l.take k))) = Blk.arr 3 (sms (colR r v g _ (l.take (k + 1))))
          rw [hmore]; simp
  . obtain rfl : k = l.length:=by omega
    have e : l.take l.length = l:=List.take_length
    repeat' (conv=>whnf); first |(refine Br.dec (fun h=>?_) (fun h=>?_)) <;> try (exfalso; omega) | refine And.intro rfl ?_ |(refine And.intro (by simp only [sms_len]; first | done | omega) ?_) | fail
    conv=>whnf
    rw [e,frz_sms]
end
section
open Go.RowKit
attribute [local irreducible] FS FO IT HS
def ir_push_sure : IR :=
(.seq (.reg (⟨some 2,.bx (.t 0),none⟩::⟨some 3,.bx (.t 1),none⟩::⟨some 4,.al [.int .i64 0,.int .i64 0,.nils,.nils,.nils,.nils],none⟩::⟨some 5,.al [.int .i64 0,.nils],none⟩::[])) (.seq (.seq (.reg (⟨some 6,.ld 6 true (.t 2),none⟩::⟨some 7,.call (.c (.fn 113 [])) [(.t 6)],none⟩::⟨some 8,.un .not (.t 7),none⟩::[])) (.cond (.t 8) (.reg (⟨some 9,.bsl 1 1 [.int .i64 0] [(0,(.c (.int .i64 0)))],none⟩::⟨some 10,.bld [.int .i64 0,.int .i64 0,.nils,.nils,.nils,.nils] [(3,1,(.t 9))],none⟩::⟨none,.st 6 (.t 2) (.t 10),none⟩::[])) .skip)) (.seq (.seq (.reg (⟨some 11,.ld 2 true (.t 3),none⟩::⟨some 12,.call (.c (.fn 21 [])) [(.t 11)],none⟩::⟨some 13,.un .not (.t 12),none⟩::[])) (.cond (.t 13) (.reg (⟨some 14,.bld [.int .i64 0,.nils] [],none⟩::⟨none,.st 2 (.t 3) (.t 14),none⟩::[])) .skip)) (.seq (.drawL (⟨some 15,.ld 6 true (.t 2),none⟩::⟨some 16,.ld 2 true (.t 3),none⟩::[]) (⟨some 16,.ld 2 true (.t 3),none⟩::[]) (⟨none,.st 6 (.t 4) (.t 15),none⟩::[]) (⟨none,.st 2 (.t 5) (.t 16),none⟩::[])) .ret))))
theorem cd_push_sure : Code1 Tryz.prog 82 17 ir_push_sure [.c 6 true 4,.c 2 true 5]:=⟨Tryz.call82,_,_,Tryz.func82,rfl,by kernel_rfl,by kernel_rfl,by kernel_rfl,by kernel_rfl⟩
theorem fs_pusure {rows cols : Int} {jc cp ir num : List Int} (hT : OkC rows cols jc cp ir num) {n : Int} {l : List (Int × Int)} (hV : OkV n l) (hl : l.length <= 1000000) : FS Tryz.prog 82 [DX rows cols jc cp ir num,VC n l] (.tup [DX rows cols jc cp ir num,VC n l]):=by
  refine fs_of_cvc mixed cd_push_sure (by simp) ?_
  have c1:=fs_dcRight hT
  have c2:=fs_vRight n l (by omega)
  rw [hV.isV] at c2
  repeat' (conv=>whnf); first |(refine Or.inl ⟨by rfl,_,c1,?_⟩) |(refine Or.inl ⟨by rfl,_,c2,?_⟩) |((refine ex_but 2 ?_; refine And.intro ?_ ?_; focus ((repeat' (first | exact trivial | exact rfl | (refine And.intro ?_ ?_) | omega | exact Nat.le_of_ble_eq_true rfl | ((conv=>whnf); first | exact trivial | exact rfl | (refine And.intro ?_ ?_)))); done))) |(exact rfl) |((refine And.intro ?_ ?_; focus ((repeat' (first | exact trivial | exact rfl | (refine And.intro ?_ ?_) | omega | exact Nat.le_of_ble_eq_true rfl | ((conv=>whnf); first | exact trivial | exact rfl | (refine And.intro ?_ ?_)))); done))) | refine Br.ff ?_ | fail
  all_goals exact rfl
def colsP (r : Int) (g : List Nat) (o : Bool) (CC : Int -> List (Int × Int)) (l : List (Int × Int)) : List (List (Int × Int)):=l.map fun s=>colR r s.2 g o (CC s.1)
def ir_push_Sums : IR :=
(.seq (.reg (⟨some 6,.bx (.t 1),none⟩::⟨some 7,.bx (.t 2),none⟩::⟨some 10,.mv (.c (.nils)),none⟩::⟨some 11,.mv (.c (.int .i64 0)),none⟩::[])) (.seq (.reg (⟨some 16,.ld 6 true (.t 6),none⟩::⟨some 17,.ld 2 true (.t 7),none⟩::⟨some 18,.call (.c (.fn 82 [])) [(.t 16),(.t 17)],none⟩::⟨some 15,.mv (.t 18),none⟩::⟨some 19,.ex 0 (.t 15),none⟩::⟨some 20,.ex 1 (.t 15),none⟩::⟨none,.st 6 (.t 6) (.t 19),none⟩::⟨none,.st 2 (.t 7) (.t 20),none⟩::[])) (.seq (.block 0 (.seq (.reg (⟨some 22,.mv (.t 0),none⟩::⟨some 23,.call (.c (.fn 22 [])) [(.t 22)],none⟩::⟨some 24,.un .not (.t 23),none⟩::⟨some 21,.mv (.t 24),none⟩::[])) (.cond (.t 21) (.seq (.reg (⟨some 10,.mv (.c (.nils)),none⟩::⟨some 11,.mv (.c (.int .i64 8)),none⟩::[])) .ret) (.seq (.reg (⟨some 26,.fa 0 (.t 7),none⟩::⟨some 27,.ld 1 false (.t 26),none⟩::⟨some 28,.fa 1 (.t 6),none⟩::⟨some 29,.ld 1 false (.t 28),none⟩::⟨some 30,.bin .neq (.t 27) (.t 29),none⟩::⟨some 25,.mv (.t 30),none⟩::[])) (.cond (.t 25) (.seq (.reg (⟨some 10,.mv (.c (.nils)),none⟩::⟨some 11,.mv (.c (.int .i64 4)),none⟩::[])) .ret) .skip))))) (.seq (.reg (⟨some 12,.mv (.c (.nils)),none⟩::[])) (.seq (.seq (.reg (⟨some 31,.fa 1 (.t 7),none⟩::⟨some 32,.ld 1 false (.t 31),none⟩::⟨some 33,.ln (.t 32),none⟩::⟨some 34,.mv (.c (.int .i64 0)),none⟩::[])) (.block 1 (.loop (.seq (.reg (⟨some 35,.bin .lss (.t 34) (.t 33),none⟩::[])) (.seq (.cond (.t 35) .skip (.exit 1)) (.seq (.block 2 (.seq (.reg (⟨some 36,.ia 2 (.t 32) (.t 34),none⟩::⟨some 37,.ld 2 true (.t 36),none⟩::⟨some 14,.al [.int .i64 0,.int .i64 0],none⟩::⟨none,.st 2 (.t 14) (.t 37),none⟩::[])) (.draw (⟨some 38,.mv (.t 12),none⟩::⟨some 39,.mv (.t 0),none⟩::⟨some 40,.ld 6 true (.t 6),none⟩::⟨some 41,.fa 0 (.t 14),none⟩::⟨some 42,.ld 1 false (.t 41),none⟩::⟨some 43,.call (.c (.fn 84 [])) [(.t 40),(.t 42)],none⟩::⟨some 44,.fa 1 (.t 14),none⟩::⟨some 45,.ld 1 false (.t 44),none⟩::⟨some 46,.mv (.t 3),none⟩::⟨some 47,.mv (.t 4),none⟩::⟨some 48,.call (.c (.fn 83 [])) [(.t 39),(.t 43),(.t 45),(.t 46),(.t 47)],none⟩::⟨some 49,.bsl 1 1 [.nils] [(0,(.t 48))],none⟩::[]) (⟨some 50,.ap 1 24 (.t 38) (.t 49),none⟩::⟨some 12,.mv (.t 50),none⟩::[])))) (.reg (⟨some 51,.bin .add (.t 34) (.c (.int .i64 1)),none⟩::⟨some 34,.mv (.t 51),none⟩::[])))))))) (.seq (.reg (⟨some 52,.mv (.t 0),none⟩::⟨some 53,.mv (.t 12),none⟩::⟨some 54,.call (.c (.fn 25 [])) [(.t 52),(.t 53)],none⟩::⟨some 55,.ex 0 (.t 54),none⟩::⟨some 56,.ex 1 (.t 54),none⟩::⟨some 10,.mv (.t 55),none⟩::⟨some 11,.mv (.t 56),none⟩::[])) .ret))))))
theorem cd_push_Sums : Code1 Tryz.prog 54 57 ir_push_Sums [.t 10,.t 11]:=⟨Tryz.call54,_,_,Tryz.func54,rfl,by kernel_rfl,by kernel_rfl,by kernel_rfl,by kernel_rfl⟩
set_option maxHeartbeats 4000000 in
theorem fo_puSums (r : Int) (hr : isR r = true) {rows cols : Int} {jc cp ir num : List Int} (hT : OkC rows cols jc cp ir num) {l : List (Int × Int)} (hV : OkV cols l) (hl : l.length <= 4096) (g : List Nat) (hg : Wd g) (o : Bool) {CC : Int -> List (Int × Int)} (hC : ∀ x ∈ l,ColC jc cp ir num x.1 (CC x.1)) (hv : ∀ x ∈ l,I64 x.2)
    (hCl : ∀ x ∈ l,(CC x.1).length <= 1000000) (hCi : ∀ x ∈ l,∀ y ∈ CC x.1,0 <= y.1 /\ y.1 <= 1000000 /\ I64 y.2) (hCr : ∀ x ∈ l,RisC (colR r x.2 g o (CC x.1))) (hCw : ∀ x ∈ l,∀ y ∈ colR r x.2 g o (CC x.1),W128 y.2) (htw : twH (inL (colsP r g o CC l) (colsP r g o CC l).length) <= 100000000) :
    FO Tryz.prog 54 [.int .i64 r,DX rows cols jc cp ir num,VC cols l,U g,.bool o] (.tup [.osl 0 3 0 (mrg r (colsP r g o CC l)).length,.int .i64 0]) [.arr 3 (sms (mrg r (colsP r g o CC l)))]:=by
  refine fo_of_cvc mixed cd_push_Sums (by simp) ?_
  have hil:=its_len l
  have c1:=fs_pusure hT hV (by omega)
  have c2:=fs_Is r
  rw [hr] at c2
  repeat' (conv=>whnf); first |(refine Or.inl ⟨by rfl,_,c1,?_⟩) |(refine Or.inl ⟨by rfl,_,c2,?_⟩) |(refine And.intro (show _ <= _ from Nat.le_of_ble_eq_true rfl) ?_) | refine Br.ff ?_ |(refine Br.dec (fun h=>?_) (fun h=>?_)) <;> try (exfalso; omega) | refine And.intro rfl ?_ | fail
  refine ⟨Nat,fun k=>k <= l.length,fun k=>[(0,.int .i64 r),(3,U g),(4,.bool o),(6,.ptr 0 0 0 0),(12,.osl 2 1 0 k),(32,IL l),(33,.int .i64 (l.length : Int)),(34,.int .i64 (k : Int))],fun k=>[.vars [.int .i64 rows,.int .i64 cols,Z jc,Z cp,Z ir,Z num],.vars [.int .i64 cols,IL l],.arr 1 (cls (colsP r g o CC (l.take k)))],fun _=>none,fun k=>l.length - k,⟨0,Nat.zero_le _,⟨rfl,rfl,rfl,rfl,⟨Nat.le_refl _,rfl,rfl⟩,rfl,?_,rfl,trivial⟩,⟨⟨rfl,rfl,rfl,rfl,rfl,rfl,trivial⟩,⟨rfl,rfl,trivial⟩,rfl,trivial⟩,rfl⟩,fun k hk=>?_⟩
  . show SV.int .i64 _ = SV.int .i64 _
    rw [its_len]
  have hk' : k <= l.length:=hk
  have hcl:=cl_len (colsP r g o CC (l.take k))
  have hcp : (colsP r g o CC (l.take k)).length = k:=by rw [colsP,List.length_map,List.length_take]; omega
  by_cases hkl : k < l.length
  . obtain ⟨x,hx⟩ : ∃ x,l.getD k (0,0) = x:=⟨_,rfl⟩
    have hxi : l[k]? = some x:=by rw [<- hx]; exact getD_some hkl
    have hxm:=List.mem_of_getElem? hxi
    have c3:=fs_dColumn hT (hC x hxm)
    have c4:=fs_pcolumn r x.2 g o (CC x.1) hg (hCl x hxm) (hv x hxm) (hCi x hxm)
    have hmore : colsP r g o CC (l.take (k + 1)) = colsP r g o CC (l.take k) ++ [colR r x.2 g o (CC x.1)]:=by
      rw [colsP,List.take_add_one,hxi,List.map_append]; rfl
    repeat' (conv=>whnf); first |(refine Or.inl ⟨by rfl,_,c3,?_⟩) |(refine Or.inl ⟨by rfl,_,c4,?_⟩) |(refine its_go' (i:=k) (by omega) hx ?_) |(refine And.intro (show _ <= _ from Nat.le_of_ble_eq_true rfl) ?_) |((refine And.intro (fun y hy=>by rcases List.mem_singleton.1 hy with rfl; rfl) ?_)) |(refine Br.dec (fun h=>?_) (fun h=>?_)) <;> try (exfalso; omega) | refine And.intro rfl ?_ |(refine And.intro (by omega) ?_) |(refine ⟨_,Or.inl ⟨⟨by omega,by omega⟩,rfl⟩,?_⟩) |(refine And.intro (by simp only [lens_all]; first | done | omega) ?_) | fail
    refine ⟨k + 1,(show k + 1 <= l.length by omega),(show l.length - (k + 1) < l.length - k by omega),⟨rfl,rfl,rfl,rfl,rfl,rfl,rfl,rfl,trivial⟩,⟨⟨rfl,rfl,rfl,rfl,rfl,rfl,trivial⟩,⟨rfl,rfl,trivial⟩,?_,Nat.le_of_ble_eq_true rfl,rfl,rfl⟩,rfl⟩
    show Blk.arr 1 (cls (colsP r g o CC (l.take k)) ++ [[SM (colR r x.2 g o (CC x.1))]]) = Blk.arr 1 (cls (colsP r g o CC (l.take (k + 1))))
    rw [hmore]; simp [cls]
  . obtain rfl : k = l.length:=by omega
    have e : l.take l.length = l:=List.take_length
    have hcl2 : (colsP r g o CC l).length = l.length:=by simp [colsP]
    have c5 : FO Tryz.prog 25 [.int .i64 r,.slc 1 (List.take l.length (List.drop 0 (cls (colsP r g o CC (List.take l.length l)))))] (.tup [.osl 0 3 0 (mrg r (colsP r g o CC l)).length,.int .i64 0]) [.arr 3 (sms (mrg r (colsP r g o CC l)))]:=by
      have e2 : List.take l.length (cls (colsP r g o CC l)) = cls (colsP r g o CC l):=List.take_of_length_le (by rw [cl_len,hcl2]; exact Nat.le_refl _)
      rw [e,List.drop_zero,e2]
      refine fo_Merge r hr _ (by omega) (fun c hc=>?_) (fun c hc=>?_) htw
      . obtain ⟨x,hx,rfl⟩:=List.mem_map.1 hc
        have:=colR_le r x.2 g o (CC x.1)
        have:=hCl x hx
        exact ⟨hCr x hx,by omega⟩
      . obtain ⟨x,hx,rfl⟩:=List.mem_map.1 hc
        exact hCw x hx
    repeat' (conv=>whnf); first |(refine Or.inr (Or.inr (Or.inr (Or.inr (Or.inl ?_))))) |(refine ⟨_,_,c5,rfl,sms_loose _,?_⟩) |(refine Br.dec (fun h=>?_) (fun h=>?_)) <;> try (exfalso; omega) | refine And.intro rfl ?_ |(refine And.intro (by omega) ?_) | fail
    exact Or.inr (Or.inr (FoS.one 3 (MatL.tup (.cons (.osl 0 3 3 0 _ rfl) (.cons (.same _ rfl) .nil))) rfl rfl))
theorem fz_sm (M : List (Int × Int)) : frzK 4 [.arr 3 (sms M)] (.tup [.osl 0 3 0 M.length,.int .i64 0]) fun y=>y = .tup [SM M,.int .i64 0]:=by
  refine ⟨rfl,by rw [sms_len]; simp,?_⟩
  show SV.tup [.slc 3 (List.take M.length (List.drop 0 (sms M))),.int .i64 0] = _
  rw [frz_sms]; rfl
end
section
open Go.RowKit
attribute [local irreducible] FS FO IT HS
end
section
open Go.RowKit
attribute [local irreducible] FS FO IT HS
def ir_csr_Count : IR :=
(.seq (.reg (⟨some 1,.bx (.t 0),none⟩::⟨some 2,.mv (.c (.int .i64 0)),none⟩::[])) (.seq (.reg (⟨some 3,.ld 5 true (.t 1),none⟩::⟨some 4,.call (.c (.fn 46 [])) [(.t 3)],none⟩::⟨some 5,.fd 3 1 false (.t 4),none⟩::⟨some 6,.ln (.t 5),none⟩::⟨some 2,.mv (.t 6),none⟩::[])) .ret))
theorem cd_csr_Count : Code1 Tryz.prog 29 7 ir_csr_Count [.t 2]:=⟨Tryz.call29,_,_,Tryz.func29,rfl,by kernel_rfl,by kernel_rfl,by kernel_rfl,by kernel_rfl⟩
theorem fs_cCount {rows cols : Int} {L : List Tri} (hT : OkT rows cols L) : FS Tryz.prog 29 [MTr rows cols L] (.int .i64 L.length):=by
  refine fs_of_cvc mixed cd_csr_Count (by simp) ?_
  have c1:=fs_Tsure hT
  repeat' (conv=>whnf); first |(refine Or.inl ⟨by rfl,_,c1,?_⟩) |(refine And.intro (show _ <= _ from Nat.le_of_ble_eq_true rfl) ?_) | fail
  show SV.int .i64 ((zs (L.map fun x=>x.2.1)).length : Int) = SV.int .i64 (L.length : Int)
  rw [zs_len,List.length_map]
def wkC (jc cp : List Int) (a : Int) : Int -> Prop:=fun w=>(∃ k : Nat,k < jc.length /\ jc.getD k 0 = a /\ w = cp.getD (k + 1) 0 - cp.getD k 0) \/ ((∀ k,k < jc.length -> jc.getD k 0 ≠ a) /\ w = 0)
def ir_dcsc_Work : IR :=
(.seq (.reg (⟨some 2,.bx (.t 0),none⟩::⟨some 4,.mv (.c (.int .i64 0)),none⟩::[])) (.seq (.reg (⟨some 9,.ld 6 true (.t 2),none⟩::⟨some 10,.call (.c (.fn 89 [])) [(.t 9)],none⟩::⟨none,.st 6 (.t 2) (.t 10),none⟩::[])) (.seq (.reg (⟨some 5,.mv (.c (.int .i64 0)),none⟩::[])) (.seq (.seq (.reg (⟨some 11,.mv (.t 1),none⟩::⟨some 12,.ln (.t 11),none⟩::⟨some 13,.mv (.c (.int .i64 0)),none⟩::[])) (.block 0 (.loop (.seq (.reg (⟨some 14,.bin .lss (.t 13) (.t 12),none⟩::[])) (.seq (.cond (.t 14) .skip (.exit 0)) (.seq (.block 1 (.seq (.reg (⟨some 15,.ia 1 (.t 11) (.t 13),none⟩::⟨some 16,.ld 1 false (.t 15),none⟩::⟨some 7,.mv (.t 16),none⟩::[])) (.seq (.reg (⟨some 17,.ld 6 true (.t 2),none⟩::⟨some 18,.mv (.t 7),none⟩::⟨some 19,.call (.c (.fn 90 [])) [(.t 17),(.t 18)],none⟩::⟨some 8,.mv (.t 19),none⟩::[])) (.seq (.reg (⟨some 20,.mv (.t 8),none⟩::⟨some 21,.bin .geq (.t 20) (.c (.int .i64 0)),none⟩::[])) (.cond (.t 21) (.draw (⟨some 22,.mv (.t 5),none⟩::⟨some 23,.fa 3 (.t 2),none⟩::⟨some 24,.ld 1 false (.t 23),none⟩::⟨some 25,.mv (.t 8),none⟩::⟨some 26,.bin .add (.t 25) (.c (.int .i64 1)),none⟩::⟨some 27,.ia 1 (.t 24) (.t 26),none⟩::⟨some 28,.ld 1 false (.t 27),none⟩::⟨some 29,.fa 3 (.t 2),none⟩::⟨some 30,.ld 1 false (.t 29),none⟩::⟨some 31,.mv (.t 8),none⟩::⟨some 32,.ia 1 (.t 30) (.t 31),none⟩::⟨some 33,.ld 1 false (.t 32),none⟩::⟨some 34,.bin .sub (.t 28) (.t 33),none⟩::[]) (⟨some 35,.bin .add (.t 22) (.t 34),none⟩::⟨some 5,.mv (.t 35),none⟩::[])) .skip))))) (.reg (⟨some 36,.bin .add (.t 13) (.c (.int .i64 1)),none⟩::⟨some 13,.mv (.t 36),none⟩::[])))))))) (.seq (.reg (⟨some 37,.mv (.t 5),none⟩::⟨some 4,.mv (.t 37),none⟩::[])) .ret)))))
theorem cd_dcsc_Work : Code1 Tryz.prog 62 38 ir_dcsc_Work [.t 4]:=⟨Tryz.call62,_,_,Tryz.func62,rfl,by kernel_rfl,by kernel_rfl,by kernel_rfl,by kernel_rfl⟩
set_option maxHeartbeats 2000000 in
theorem fs_dWork {rows cols : Int} {jc cp ir num : List Int} (hT : OkC rows cols jc cp ir num) (ps : List Int) (hl : ps.length <= 100000) {W : Int -> Int} (hW : ∀ a ∈ ps,wkC jc cp a (W a)) : FS Tryz.prog 62 [DX rows cols jc cp ir num,Z ps] (.int .i64 ((ps.map W).sum)):=by
  refine fs_of_cvc mixed cd_dcsc_Work (by simp) ?_
  have c1:=fs_dcsure hT
  have z0:=zs_len ps
  have z2:=zs_len cp
  have q3:=hT.lc
  have q5:=hT.nl
  have q6:=hT.lj
  repeat' (conv=>whnf); first |(refine Or.inl ⟨by rfl,_,c1,?_⟩) |(refine And.intro (show _ <= _ from Nat.le_of_ble_eq_true rfl) ?_) | refine And.intro rfl ?_ | fail
  refine ⟨Nat,fun k=>k <= ps.length /\ 0 <= ((ps.take k).map W).sum /\ ((ps.take k).map W).sum <= 65536 * (k : Int),fun k=>[(2,.ptr 0 0 0 0),(5,.int .i64 ((ps.take k).map W).sum),(11,Z ps),(12,.int .i64 (ps.length : Int)),(13,.int .i64 (k : Int))],fun k=>[.vars [.int .i64 rows,.int .i64 cols,Z jc,Z cp,Z ir,Z num]],fun _=>none,fun k=>ps.length - k,⟨0,⟨Nat.zero_le _,Int.le_refl _,by simp⟩,⟨rfl,rfl,rfl,?_,rfl,trivial⟩,⟨⟨rfl,rfl,rfl,rfl,rfl,rfl,trivial⟩,trivial⟩,rfl⟩,fun k hk=>?_⟩
  . show SV.int .i64 _ = SV.int .i64 _
    rw [zs_len]
  obtain ⟨h1,h2,h3⟩:=hk
  by_cases hkl : k < ps.length
  . obtain ⟨a,ha⟩ : ∃ a,ps.getD k 0 = a:=⟨_,rfl⟩
    have hai : ps[k]? = some a:=by rw [<- ha]; simp [hkl]
    have hWa:=hW a (List.mem_of_getElem? hai)
    have hmore : ((ps.take (k + 1)).map W).sum = ((ps.take k).map W).sum + W a:=by
      rw [List.take_add_one,hai,List.map_append,List.sum_append]; simp
    rcases hWa with ⟨j,hj,he,hw⟩ | ⟨hno,hw⟩
    . have c2:=fs_dplace hT (a:=a) (p:=(j : Int)) (.inl ⟨j,hj,he,rfl⟩)
      obtain ⟨x,hx⟩ : ∃ x,cp.getD j 0 = x:=⟨_,rfl⟩
      obtain ⟨y,hy⟩ : ∃ y,cp.getD (j + 1) 0 = y:=⟨_,rfl⟩
      have r1:=hT.cr j (by omega)
      have r2:=hT.cr (j + 1) (by omega)
      rw [hx] at r1
      rw [hy,Nat.add_sub_cancel,hx] at r2
      rw [hx,hy] at hw
      have hxy:=r2.2 (by omega)
      repeat' (conv=>whnf); first |(refine Or.inl ⟨by rfl,_,c2,?_⟩) |(refine zs_go (i:=k) (by omega) ha ?_) |(refine zs_go (i:=j) (by omega) hx ?_) |(refine zs_go (i:=j + 1) (by omega) hy ?_) |(refine And.intro (show _ <= _ from Nat.le_of_ble_eq_true rfl) ?_) | refine Br.tt ?_ |(refine Br.dec (fun h=>?_) (fun h=>?_)) <;> try (exfalso; omega) | refine And.intro rfl ?_ |(refine And.intro (by omega) ?_) |(refine ⟨_,Or.inl ⟨⟨by omega,by omega⟩,rfl⟩,?_⟩) | fail
      all_goals
        refine ⟨k + 1,⟨by omega,(show 0 <= ((ps.take (k + 1)).map W).sum by rw [hmore]; omega),(show ((ps.take (k + 1)).map W).sum <= 65536 * ((k + 1 : Nat) : Int) by rw [hmore]; omega)⟩,(show ps.length - (k + 1) < ps.length - k by omega),⟨rfl,?_,rfl,rfl,rfl,trivial⟩,⟨⟨rfl,rfl,rfl,rfl,rfl,rfl,trivial⟩,trivial⟩,rfl⟩
        show SV.int .i64 _ = SV.int .i64 ((ps.take (k + 1)).map W).sum
        rw [hmore,hw]
    . have c2:=fs_dplace hT (a:=a) (p:=-1) (.inr ⟨hno,rfl⟩)
      repeat' (conv=>whnf); first |(refine Or.inl ⟨by rfl,_,c2,?_⟩) |(refine zs_go (i:=k) (by omega) ha ?_) |(refine And.intro (show _ <= _ from Nat.le_of_ble_eq_true rfl) ?_) | refine Br.ff ?_ |(refine Br.dec (fun h=>?_) (fun h=>?_)) <;> try (exfalso; omega) | refine And.intro rfl ?_ |(refine And.intro (by omega) ?_) |(refine ⟨_,Or.inl ⟨⟨by omega,by omega⟩,rfl⟩,?_⟩) | fail
      all_goals
        refine ⟨k + 1,⟨by omega,(show 0 <= ((ps.take (k + 1)).map W).sum by rw [hmore]; omega),(show ((ps.take (k + 1)).map W).sum <= 65536 * ((k + 1 : Nat) : Int) by rw [hmore]; omega)⟩,(show ps.length - (k + 1) < ps.length - k by omega),⟨rfl,?_,rfl,rfl,rfl,trivial⟩,⟨⟨rfl,rfl,rfl,rfl,rfl,rfl,trivial⟩,trivial⟩,rfl⟩
        show SV.int .i64 _ = SV.int .i64 ((ps.take (k + 1)).map W).sum
        rw [hmore,hw,Int.add_zero]
  . obtain rfl : k = ps.length:=by omega
    have e : ps.take ps.length = ps:=List.take_length
    repeat' (conv=>whnf); first |(refine Br.dec (fun h=>?_) (fun h=>?_)) <;> try (exfalso; omega) | refine And.intro rfl ?_ | fail
    show SV.int .i64 ((ps.take ps.length).map W).sum = _
    rw [e]
end
section
open Go.Proofs.YtelbhbadkbcakaaGreat Go.RowKit
theorem run_dnone (w : World) : Calls Tryz.prog 32 #[] w fun e w'=>e = .returned (.agg #[.int .i64 0,.int .i64 0,.slice none 0 0,.slice (some ⟨w.heap.size + 1,0,none⟩) 1 1,.slice none 0 0,.slice none 0 0]) /\ Belo w.heap.size w w' /\ w'.heap.size = w.heap.size + 2 /\ ∃ T,w'.heap[w.heap.size + 1]? = some (.cells #[.int .i64 0] T (0,0)):=by
  go_enter Tryz.func32,Tryz.ntmps32
  go_wp2
  refine bodyPost_ret (results_cell_row (p:=0) (ty:=50) rfl _ _ w.heap.size 50 _ (0,0) _ rfl (heap_alloc2_old _ _ _) Tryz.underlying50 rfl (by kernel_rfl)) rfl ⟨rfl,?_,?_,_,heap_alloc2_new _ _ _⟩
  . exact ((Belo.refl _ w).alloc (Nat.le_refl _) _).alloc (by simp) _
  . simp
theorem fo_dnone : FO Tryz.prog 32 [] (.agg [.int .i64 0,.int .i64 0,.nils,.osl 0 1 0 1,.nils,.nils]) [.arr 1 [[.int .i64 0]]]:=by
  refine ⟨Tryz.call32,fun w A vs hfin hr=>?_⟩
  obtain rfl : vs = []:=List.eq_nil_of_length_eq_zero hr.1
  refine (run_dnone w).mono ?_
  rintro e w' ⟨rfl,hb,hs,T,hc⟩
  have hn : ∀ b,some b ∈ [some (w.heap.size + 1)] -> b = w.heap.size + 1:=fun b h=>by simpa using h
  refine ⟨_,[some (w.heap.size + 1)],rfl,hb,⟨rfl,fun k k' b h1 h2=>?_,fun k b h1=>?_,fun k o blk h1 h2=>?_⟩,fun b h=>by have:=hn b h; omega,?_⟩
  . have a1:=(List.getElem?_eq_some_iff.1 h1).1
    have a2:=(List.getElem?_eq_some_iff.1 h2).1
    simp at a1 a2; omega
  . have:=hn b (List.mem_of_getElem? h1)
    exact ⟨.inr (List.mem_of_getElem? h1),by omega⟩
  . match k with
    | 0 =>
      cases h1; cases h2
      refine ⟨[.int .i64 0],T,hc,by decide,fun i x hx=>?_⟩
      match i with
      | 0 =>
        cases hx
        refine ⟨rfl,fun j c hc=>?_⟩
        match j with
        | 0=>cases hc; exact ⟨_,rfl,.int _ _ _⟩
        | j + 1=>cases hc
      | i + 1=>cases hx
    | k + 1=>cases h1
  . refine .agg _ _ [.int .i64 0,.int .i64 0,.slice none 0 0,.slice (some ⟨w.heap.size + 1,0,none⟩) 1 1,.slice none 0 0,.slice none 0 0] rfl fun i f v h1 h2=>?_
    match i with
    | 0=>cases h1; cases h2; exact .int _ _ _
    | 1=>cases h1; cases h2; exact .int _ _ _
    | 2=>cases h1; cases h2; exact .nils _ _
    | 3=>cases h1; cases h2; exact .osl _ 0 1 0 1 _ 1 rfl (Nat.le_refl _) ⟨_,T,(0,0),hc,by decide⟩
    | 4=>cases h1; cases h2; exact .nils _ _
    | 5=>cases h1; cases h2; exact .nils _ _
    | i + 6=>cases h1
end
section
open Go.RowKit
attribute [local irreducible] FS FO IT HS
def ir_push_Work : IR :=
(.seq (.reg (⟨some 2,.bx (.t 0),none⟩::⟨some 3,.bx (.t 1),none⟩::⟨some 4,.mv (.c (.int .i64 0)),none⟩::[])) (.seq (.draw (⟨some 5,.ld 6 true (.t 2),none⟩::⟨some 6,.ld 2 true (.t 3),none⟩::⟨some 7,.call (.c (.fn 63 [])) [(.t 6)],none⟩::[]) (⟨some 8,.call (.c (.fn 62 [])) [(.t 5),(.t 7)],none⟩::⟨some 4,.mv (.t 8),none⟩::[])) .ret))
theorem cd_push_Work : Code1 Tryz.prog 27 9 ir_push_Work [.t 4]:=⟨Tryz.call27,_,_,Tryz.func27,rfl,by kernel_rfl,by kernel_rfl,by kernel_rfl,by kernel_rfl⟩
theorem fs_puWork {rows cols : Int} {jc cp ir num : List Int} (hT : OkC rows cols jc cp ir num) (n : Int) (l : List (Int × Int)) (hl : l.length <= 100000) {W : Int -> Int} (hW : ∀ a ∈ plsI (sl n l),wkC jc cp a (W a)) : FS Tryz.prog 27 [DX rows cols jc cp ir num,VC n l] (.int .i64 (((plsI (sl n l)).map W).sum)):=by
  refine fs_of_cvc mixed cd_push_Work (by simp) ?_
  have c1:=fs_vPlaces n l (by omega)
  have hpl : (plsI (sl n l)).length <= 100000:=by
    have : (sl n l).length <= l.length:=by unfold sl; split <;> simp
    simp [plsI]; omega
  have c2:=fs_dWork hT (plsI (sl n l)) hpl hW
  repeat' (conv=>whnf); first |(refine Or.inl ⟨by rfl,_,c1,?_⟩) |(refine Or.inl ⟨by rfl,_,c2,?_⟩) |(refine And.intro (show _ <= _ from Nat.le_of_ble_eq_true rfl) ?_) | fail
  all_goals exact rfl
end
end Go.Proofs.YtelbhbadkbcakaaGreat
