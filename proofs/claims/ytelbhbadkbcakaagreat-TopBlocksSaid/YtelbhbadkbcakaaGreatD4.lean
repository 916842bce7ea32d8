/- Each item of a vector turned; a part of a vector. -/
import Derived.Test.YtelbhbadkbcakaaGreatD3
namespace Go.Proofs.YtelbhbadkbcakaaGreat
section
open Go.RowKit
attribute [local irreducible] FS FO IT HS
theorem its_loose1 (l : List (Int × Int)) : ∀ b ∈ [Blk.arr 2 (its l)],Blk.loose b:=fun b hb=>by
  simp at hb
  subst hb
  exact its_loose l
def mapK (f : Int × Int -> Int × Int) (a : List (Int × Int)) (k : Nat) : List (Int × Int):=(a.take k).map f ++ a.drop k
theorem mapK_zero (f : Int × Int -> Int × Int) (a : List (Int × Int)) : mapK f a 0 = a:=by simp [mapK]
theorem mapK_all (f : Int × Int -> Int × Int) (a : List (Int × Int)) : mapK f a a.length = a.map f:=by simp [mapK]
theorem mapK_len (f : Int × Int -> Int × Int) (a : List (Int × Int)) (k : Nat) : (mapK f a k).length = a.length:=by simp [mapK]; omega
theorem mapK_at {f : Int × Int -> Int × Int} {a : List (Int × Int)} {k : Nat} {x : Int × Int} (h : a[k]? = some x) : (mapK f a k)[k]? = some x:=by
  have hk:=(List.getElem?_eq_some_iff.1 h).1
  unfold mapK
  rw [List.getElem?_append_right (by simp; omega),List.getElem?_drop,show k + (k - ((a.take k).map f).length) = k by simp; omega,h]
theorem mapK_set {f : Int × Int -> Int × Int} {a : List (Int × Int)} {k : Nat} {x : Int × Int} (h : a[k]? = some x) : (mapK f a k).set k (f x) = mapK f a (k + 1):=by
  obtain ⟨hk,he⟩:=List.getElem?_eq_some_iff.1 h
  unfold mapK
  rw [List.set_append_right _ _ (by simp; omega),show k - ((a.take k).map f).length = 0 by simp; omega,List.drop_eq_getElem_cons hk,vtk_more h,List.map_append,List.append_assoc]
  rfl
def ir_spvec_each : IR :=
(.seq (.reg (⟨some 2,.bx (.t 0),none⟩::⟨some 4,.al [.int .i64 0,.nils],none⟩::[])) (.seq (.reg (⟨some 8,.ld 2 true (.t 2),none⟩::⟨some 9,.call (.c (.fn 91 [])) [(.t 8)],none⟩::⟨none,.st 2 (.t 2) (.t 9),none⟩::[])) (.seq (.draw (⟨some 10,.fa 0 (.t 2),none⟩::⟨some 11,.ld 1 false (.t 10),none⟩::⟨some 12,.fa 1 (.t 2),none⟩::⟨some 13,.ld 1 false (.t 12),none⟩::⟨some 14,.call (.c (.fn 37 [])) [(.t 13)],none⟩::⟨some 15,.bld [.int .i64 0,.nils] [(0,1,(.t 11)),(1,1,(.t 14))],none⟩::⟨some 5,.al [.int .i64 0,.nils],none⟩::[]) (⟨none,.st 2 (.t 5) (.t 15),none⟩::[])) (.seq (.seq (.reg (⟨some 16,.fa 1 (.t 5),none⟩::⟨some 17,.ld 1 false (.t 16),none⟩::⟨some 18,.ln (.t 17),none⟩::⟨some 19,.mv (.c (.int .i64 0)),none⟩::[])) (.block 0 (.loop (.seq (.reg (⟨some 20,.bin .lss (.t 19) (.t 18),none⟩::[])) (.seq (.cond (.t 20) .skip (.exit 0)) (.seq (.block 1 (.seq (.reg (⟨some 21,.mv (.t 19),none⟩::⟨some 22,.ia 2 (.t 17) (.t 19),none⟩::⟨some 23,.ld 2 true (.t 22),none⟩::⟨some 7,.al [.int .i64 0,.int .i64 0],none⟩::⟨some 6,.mv (.t 21),none⟩::⟨none,.st 2 (.t 7) (.t 23),none⟩::[])) (.draw (⟨some 24,.fa 1 (.t 5),none⟩::⟨some 25,.ld 1 false (.t 24),none⟩::⟨some 26,.mv (.t 6),none⟩::⟨some 27,.mv (.t 1),none⟩::⟨some 28,.ld 2 true (.t 7),none⟩::⟨some 29,.call (.t 27) [(.t 28)],none⟩::[]) (⟨some 30,.ia 2 (.t 25) (.t 26),none⟩::⟨none,.st 2 (.t 30) (.t 29),none⟩::[])))) (.reg (⟨some 31,.bin .add (.t 19) (.c (.int .i64 1)),none⟩::⟨some 19,.mv (.t 31),none⟩::[])))))))) (.seq (.reg (⟨some 32,.ld 2 true (.t 5),none⟩::⟨none,.st 2 (.t 4) (.t 32),none⟩::[])) .ret)))))
theorem cd_spvec_each : Code1 Tryz.prog 111 33 ir_spvec_each [.c 2 true 4]:=⟨Tryz.call111,_,_,Tryz.func111,rfl,by kernel_rfl,by kernel_rfl,by kernel_rfl,by kernel_rfl⟩
set_option maxHeartbeats 4000000 in
theorem fo_each (n : Int) (l : List (Int × Int)) (hl : l.length <= 400000000) (g : FuncId) (caps : List SV) (f : Int × Int -> Int × Int) (hpc : SV.pure.pureL caps = true) (hp : ∀ x ∈ sl n l,FS Tryz.prog g (.agg [.int .i64 x.1,.int .i64 x.2]::caps) (.agg [.int .i64 (f x).1,.int .i64 (f x).2])) :
    FO Tryz.prog 111 [VC n l,.fn g caps] (.agg [.int .i64 (sn n l),.osl 0 2 0 (sl n l).length]) [.arr 2 (its ((sl n l).map f))]:=by
  refine fo_of_cvc mixed cd_spvec_each (by simp) ?_
  have c1:=fs_vsure n l (by omega)
  have s1:=sl_len n l
  generalize sn n l = N at *
  generalize sl n l = a at *
  have hal:=its_len a
  have c2:=fo_vClone a (by omega)
  repeat' (conv=>whnf); first |(refine Or.inl ⟨by rfl,_,c1,?_⟩) |(refine Or.inr (Or.inl ⟨by rfl,_,_,c2,?_⟩)) |(refine And.intro (show _ <= _ from Nat.le_of_ble_eq_true rfl) ?_) | refine And.intro rfl ?_ | fail
  refine ⟨Nat,fun j=>j <= a.length,fun j=>[(1,.fn g caps),(4,.ptr 1 0 0 0),(5,.ptr 3 0 0 0),(17,.osl 2 2 0 a.length),(18,.int .i64 (a.length : Int)),(19,.int .i64 (j : Int))],fun j=>[.vars [.int .i64 N,IL a],.vars [.int .i64 0,.nils],.arr 2 (its (mapK f a j)),.vars [.int .i64 N,.osl 2 2 0 a.length]],fun _=>none,fun j=>a.length - j,
    ⟨0,Nat.zero_le _,⟨rfl,rfl,rfl,rfl,rfl,rfl,trivial⟩,⟨⟨rfl,rfl,trivial⟩,⟨rfl,rfl,trivial⟩,?_,⟨rfl,rfl,trivial⟩,trivial⟩,rfl⟩,fun j hj=>?_⟩
  . exact congrArg (fun l=>Blk.arr 2 (its l)) (mapK_zero f a).symm
  have hj : j <= a.length:=hj
  have hml:=mapK_len f a j
  have hil:=its_len (mapK f a j)
  by_cases hja : j < a.length
  . obtain ⟨x,hx⟩ : ∃ x,a[j]? = some x:=⟨_,List.getElem?_eq_getElem hja⟩
    have c3:=hp x (List.mem_of_getElem? hx)
    have hq:=its_one (q:=0 + (j : Int).toNat) (by rw [show 0 + (j : Int).toNat = j by omega]; exact mapK_at (f:=f) hx)
    have hpu : SV.pure.pureL (.agg [.int .i64 x.1,.int .i64 x.2]::caps) = true:=by simp [SV.pure.pureL,SV.pure,hpc]
    have hbe : ∀ n,(SV.bnd.bndL n caps && true) = true:=fun n=>by rw [bnd_pure.bndL_pure n caps hpc]; rfl
    repeat' (conv=>whnf); first |(refine ⟨_,hq,?_⟩) |(refine Or.inl ⟨hpu,_,c3,?_⟩) |(refine And.intro (show _ <= _ from Nat.le_of_ble_eq_true rfl) ?_) |(refine Br.dec (fun h=>?_) (fun h=>?_)) <;> try (exfalso; omega) | refine And.intro rfl ?_ |(refine And.intro (by omega) ?_) |(refine ⟨_,Or.inl ⟨⟨by omega,by omega⟩,rfl⟩,?_⟩) | fail
    refine ⟨j + 1,(show j + 1 <= a.length by omega),(show a.length - (j + 1) < a.length - j by omega),⟨rfl,rfl,rfl,rfl,rfl,rfl,trivial⟩,⟨⟨rfl,rfl,trivial⟩,⟨rfl,rfl,trivial⟩,?_,⟨rfl,rfl,trivial⟩,⟨Nat.le_refl _,hbe 4,rfl⟩⟩,rfl⟩
    show Blk.arr 2 ((its (mapK f a j)).set (0 + (j : Int).toNat) [.int .i64 (f x).1,.int .i64 (f x).2]) = _
    rw [show 0 + (j : Int).toNat = j by omega,its_set,show ((f x).1,(f x).2) = f x from rfl,mapK_set hx]
  . obtain rfl : j = a.length:=by omega
    repeat' (conv=>whnf); first |(refine And.intro (show _ <= _ from Nat.le_of_ble_eq_true rfl) ?_) |(refine Br.dec (fun h=>?_) (fun h=>?_)) <;> try (exfalso; omega) | refine And.intro rfl ?_ | fail
    rw [mapK_all]
    exact Or.inr (Or.inr (FoS.one 2 (MatL.agg (.cons (.same _ rfl) (.cons (.osl 0 2 2 0 _ rfl) .nil))) rfl rfl))
def ir_spvec_Part_1 : IR :=
(.seq (.reg (⟨some 2,.bx (.t 0),none⟩::⟨some 3,.al [.int .i64 0,.int .i64 0],none⟩::[])) (.seq (.reg (⟨some 4,.fa 0 (.t 2),none⟩::⟨some 5,.ld 1 false (.t 4),none⟩::⟨some 6,.ld 1 false (.t 1),none⟩::⟨some 7,.bin .sub (.t 5) (.t 6),none⟩::⟨some 8,.fa 1 (.t 2),none⟩::⟨some 9,.ld 1 false (.t 8),none⟩::⟨some 10,.bld [.int .i64 0,.int .i64 0] [(0,1,(.t 7)),(1,1,(.t 9))],none⟩::⟨none,.st 2 (.t 3) (.t 10),none⟩::[])) .ret))
theorem cd_spvec_Part_1 : Code1 Tryz.prog 112 11 ir_spvec_Part_1 [.c 2 true 3]:=⟨Tryz.call112,_,_,Tryz.func112,rfl,by kernel_rfl,by kernel_rfl,by kernel_rfl,by kernel_rfl⟩
theorem fs_part1 (a : Int) (x : Int × Int) (h1 : I64 x.1) (h : I64 (x.1 - a)) : FS Tryz.prog 112 [.agg [.int .i64 x.1,.int .i64 x.2],.box [.int .i64 a] 0] (.agg [.int .i64 (x.1 - a),.int .i64 x.2]):=by
  refine fs_of_cvc mixed cd_spvec_Part_1 (by simp) ?_
  obtain ⟨x,y⟩:=x
  unfold I64 at h1 h
  simp only at h1 h ⊢
  repeat' (conv=>whnf); first |(refine And.intro (show _ <= _ from Nat.le_of_ble_eq_true rfl) ?_) | refine And.intro rfl ?_ |(refine ⟨_,Or.inl ⟨⟨by omega,by omega⟩,rfl⟩,?_⟩) | fail
  first | exact rfl | exact ⟨⟨rfl,rfl,trivial⟩,trivial⟩
theorem take_pos (b : Int) : ∀ l : List (Int × Int),Up l -> l.take (posI l b) = l.filter fun x=>decide (x.1 < b)
  | [],_=>rfl
  | x :: l, hu => by
    rw [posI_cons,List.filter_cons]
    have hh:=hu.head
    by_cases h : b <= x.1
    . rw [if_pos h,if_neg (by simp; omega),List.filter_eq_nil_iff.2 fun y hy=>by have:=hh y hy; simp; omega]; rfl
    . rw [if_neg h,if_pos (decide_eq_true (by omega)),List.take_succ_cons,take_pos b l hu.tail]
theorem cut_pos {a b : Int} (hab : a <= b) : ∀ l : List (Int × Int),Up l -> posI l a <= posI l b /\ (l.drop (posI l a)).take (posI l b - posI l a) = l.filter fun x=>decide (a <= x.1) && decide (x.1 < b)
  | [],_=>⟨Nat.le_refl _,rfl⟩
  | x :: l, hu => by
    rw [posI_cons,posI_cons,List.filter_cons]
    have hh:=hu.head
    by_cases hb : b <= x.1
    . rw [if_pos hb,if_pos (by omega),if_neg (by simp; omega),List.filter_eq_nil_iff.2 fun y hy=>by have:=hh y hy; simp; omega]
      exact ⟨Nat.le_refl _,rfl⟩
    . by_cases ha : a <= x.1
      . rw [if_neg hb,if_pos ha,if_pos (by simp; omega)]
        refine ⟨Nat.zero_le _,?_⟩
        rw [List.drop_zero,Nat.sub_zero,List.take_succ_cons,take_pos b l hu.tail]
        refine congrArg (x::·) (List.filter_congr fun y hy=>?_)
        have:=hh y hy
        rw [decide_eq_true (show a <= y.1 by omega),Bool.true_and]
      . obtain ⟨i1,i2⟩:=cut_pos hab l hu.tail
        rw [if_neg hb,if_neg ha,if_neg (by simp; omega),List.drop_succ_cons,Nat.add_sub_add_right]
        exact ⟨by omega,i2⟩
def ir_spvec_Part : IR :=
(.seq (.reg (⟨some 3,.bx (.t 0),none⟩::⟨some 4,.bx (.t 1),none⟩::⟨some 6,.al [.int .i64 0,.nils],none⟩::[])) (.seq (.reg (⟨some 13,.ld 2 true (.t 3),none⟩::⟨some 14,.call (.c (.fn 91 [])) [(.t 13)],none⟩::⟨none,.st 2 (.t 3) (.t 14),none⟩::[])) (.seq (.drawL (⟨some 15,.ld 1 false (.t 4),none⟩::⟨some 16,.mm true [(.t 15),(.c (.int .i64 0))],none⟩::⟨some 17,.mv (.t 2),none⟩::⟨some 18,.fa 0 (.t 3),none⟩::⟨some 19,.ld 1 false (.t 18),none⟩::⟨some 20,.mm false [(.t 17),(.t 19)],none⟩::[]) (⟨some 17,.mv (.t 2),none⟩::⟨some 18,.fa 0 (.t 3),none⟩::⟨some 19,.ld 1 false (.t 18),none⟩::⟨some 20,.mm false [(.t 17),(.t 19)],none⟩::[]) (⟨none,.st 1 (.t 4) (.t 16),none⟩::[]) (⟨some 2,.mv (.t 20),none⟩::[])) (.seq (.seq (.reg (⟨some 21,.mv (.t 2),none⟩::⟨some 22,.ld 1 false (.t 4),none⟩::⟨some 23,.bin .leq (.t 21) (.t 22),none⟩::[])) (.cond (.t 23) (.seq (.reg (⟨some 24,.bld [.int .i64 0,.nils] [],none⟩::⟨none,.st 2 (.t 6) (.t 24),none⟩::[])) .ret) .skip)) (.seq (.reg (⟨some 26,.ld 2 true (.t 3),none⟩::⟨some 27,.ld 1 false (.t 4),none⟩::⟨some 28,.call (.c (.fn 110 [])) [(.t 26),(.t 27)],none⟩::⟨some 25,.mv (.t 28),none⟩::⟨some 29,.ex 0 (.t 25),none⟩::⟨some 30,.ex 1 (.t 25),none⟩::⟨some 7,.mv (.t 29),none⟩::⟨some 8,.mv (.t 30),none⟩::[])) (.seq (.reg (⟨some 32,.ld 2 true (.t 3),none⟩::⟨some 33,.mv (.t 2),none⟩::⟨some 34,.call (.c (.fn 110 [])) [(.t 32),(.t 33)],none⟩::⟨some 31,.mv (.t 34),none⟩::⟨some 35,.ex 0 (.t 31),none⟩::⟨some 36,.ex 1 (.t 31),none⟩::⟨some 9,.mv (.t 35),none⟩::⟨some 10,.mv (.t 36),none⟩::[])) (.seq (.draw (⟨some 37,.fa 0 (.t 3),none⟩::⟨some 38,.ld 1 false (.t 37),none⟩::⟨some 39,.fa 1 (.t 3),none⟩::⟨some 40,.ld 1 false (.t 39),none⟩::⟨some 41,.mv (.t 7),none⟩::⟨some 42,.mv (.t 9),none⟩::⟨some 43,.sl 2 (.t 40) (some (.t 41)) (some (.t 42)) none,none⟩::⟨some 44,.bld [.int .i64 0,.nils] [(0,1,(.t 38)),(1,1,(.t 43))],none⟩::⟨some 11,.al [.int .i64 0,.nils],none⟩::[]) (⟨none,.st 2 (.t 11) (.t 44),none⟩::[])) (.seq (.reg (⟨some 45,.ld 2 true (.t 11),none⟩::⟨some 46,.fn 112 [(.t 4)],none⟩::⟨some 47,.call (.c (.fn 111 [])) [(.t 45),(.t 46)],none⟩::⟨some 12,.al [.int .i64 0,.nils],none⟩::⟨none,.st 2 (.t 12) (.t 47),none⟩::[])) (.seq (.reg (⟨some 48,.mv (.t 2),none⟩::⟨some 49,.ld 1 false (.t 4),none⟩::⟨some 50,.bin .sub (.t 48) (.t 49),none⟩::⟨some 51,.fa 0 (.t 12),none⟩::⟨none,.st 1 (.t 51) (.t 50),none⟩::[])) (.seq (.reg (⟨some 52,.ld 2 true (.t 12),none⟩::⟨none,.st 2 (.t 6) (.t 52),none⟩::[])) .ret))))))))))
theorem cd_spvec_Part : Code1 Tryz.prog 81 53 ir_spvec_Part [.c 2 true 6]:=⟨Tryz.call81,_,_,Tryz.func81,rfl,by kernel_rfl,by kernel_rfl,by kernel_rfl,by kernel_rfl⟩
set_option maxHeartbeats 4000000 in
theorem fs_vPart (n : Int) (l : List (Int × Int)) (p q : Int) (hl : l.length <= 400000000) (_hp : I64 p) (_hq : I64 q) : FS Tryz.prog 81 [VC n l,.int .i64 p,.int .i64 q] (VC (ptR (sn n l) (sl n l) p q).1 (ptR (sn n l) (sl n l) p q).2):=by
  refine fs_of_cvc mixed cd_spvec_Part (by simp) ?_
  have c1:=fs_vsure n l (by omega)
  have hok:=okV n l
  have s1:=sl_len n l
  generalize sn n l = N at *
  generalize sl n l = A at *
  have hal:=its_len A
  have hn0:=hok.n0
  have hn1:=hok.n1
  obtain ⟨t,ht⟩ : ∃ t,ptR N A p q = t:=⟨_,rfl⟩
  rw [ht]
  unfold ptR at ht
  by_cases h : min q N <= max p 0
  . rw [if_pos h] at ht
    subst ht
    repeat' (conv=>whnf); first |(refine Or.inl ⟨by rfl,_,c1,?_⟩) |((refine ex_but 1 ?_; refine And.intro ?_ ?_; focus ((repeat' (first | exact trivial | exact rfl | (refine And.intro ?_ ?_) | omega | ((conv=>whnf); first | exact trivial | exact rfl | (refine And.intro ?_ ?_)))); done))) |(exact trivial) |((refine And.intro ?_ ?_; focus ((repeat' (first | exact trivial | exact rfl | (refine And.intro ?_ ?_) | omega | ((conv=>whnf); first | exact trivial | exact rfl | (refine And.intro ?_ ?_)))); done))) |(refine And.intro (show _ <= _ from Nat.le_of_ble_eq_true rfl) ?_) |(refine Br.dec (fun h=>?_) (fun h=>?_)) <;> try (exfalso; omega) | fail
    all_goals first | exact rfl | exact trivial | exact ⟨rfl,trivial⟩
  . rw [if_neg h] at ht
    subst ht
    obtain ⟨i1,i2⟩:=cut_pos (a:=max p 0) (b:=min q N) (by omega) A hok.up
    have q1:=posI_le A (min q N)
    obtain ⟨cut,hcut⟩ : ∃ c,(A.filter fun x=>decide (max p 0 <= x.1) && decide (x.1 < min q N)) = c:=⟨_,rfl⟩
    have hcm : ∀ x ∈ cut,x ∈ A /\ max p 0 <= x.1 /\ x.1 < min q N:=fun x hx=>by
      rw [<- hcut,List.mem_filter,Bool.and_eq_true,decide_eq_true_eq,decide_eq_true_eq] at hx
      exact ⟨hx.1,hx.2.1,hx.2.2⟩
    have hoc : OkV N cut:=⟨hok.n0,hok.n1,by rw [<- hcut]; exact hok.up.filter _,fun x hx=>hok.lo x (hcm x hx).1⟩
    have hcl : cut.length <= A.length:=by rw [<- hcut]; exact List.length_filter_le _ _
    have c2:=fs_find N A (max p 0) (by omega) hok.up
    have c3:=fs_find N A (min q N) (by omega) hok.up
    have c4:=fo_each N cut (by omega) 112 [.box [.int .i64 (max p 0)] 0] (fun x=>(x.1 - max p 0,x.2)) rfl fun x hx=>by
      rw [hoc.sl] at hx
      have h1:=hok.lo x (hcm x hx).1
      have h2:=hcm x hx
      exact fs_part1 _ x (by unfold I64; omega) (by unfold I64; omega)
    rw [hoc.sn,hoc.sl] at c4
    have e : List.drop ((posI A (max p 0) : Nat) : Int).toNat (List.take ((posI A (min q N) : Nat) : Int).toNat (its A)) = its cut:=by
      unfold its
      rw [Int.toNat_natCast,Int.toNat_natCast,List.drop_take,<- List.map_drop,<- List.map_take,i2,hcut]
    replace c4 : FO Tryz.prog 111 [.agg [.int .i64 N,.slc 2 (List.drop ((posI A (max p 0) : Nat) : Int).toNat (List.take ((posI A (min q N) : Nat) : Int).toNat (its A)))],.fn 112 [.box [.int .i64 (max p 0)] 0]] (.agg [.int .i64 N,.osl 0 2 0 cut.length]) [.arr 2 (its (cut.map fun x=>(x.1 - max p 0,x.2)))]:=by
      rw [e]; exact c4
    have e2 : ptI (max p 0) (min q N) A = cut.map fun x=>(x.1 - max p 0,x.2):=by unfold ptI; rw [hcut]
    rw [e2]
    generalize posI A (max p 0) = i at *
    generalize posI A (min q N) = j at *
    repeat' (conv=>whnf); first |(refine Or.inl ⟨by rfl,_,c1,?_⟩) |(refine Or.inl ⟨by rfl,_,c2,?_⟩) |(refine Or.inl ⟨by rfl,_,c3,?_⟩) |((refine Or.inr (Or.inr (Or.inr (Or.inr (Or.inl ?_)))); (conv=>whnf); refine ⟨_,_,c4,rfl,its_loose1 _,?_⟩)) |((refine ex_but 1 ?_; refine And.intro ?_ ?_; focus ((repeat' (first | exact trivial | exact rfl | (refine And.intro ?_ ?_) | omega | ((conv=>whnf); first | exact trivial | exact rfl | (refine And.intro ?_ ?_)))); done))) |((refine And.intro ?_ ?_; focus ((repeat' (first | exact trivial | exact rfl | (refine And.intro ?_ ?_) | omega | ((conv=>whnf); first | exact trivial | exact rfl | (refine And.intro ?_ ?_)))); done))) |(refine And.intro (show _ <= _ from Nat.le_of_ble_eq_true rfl) ?_) |(refine Br.dec (fun h=>?_) (fun h=>?_)) <;> try (exfalso; omega) |(refine ⟨_,Or.inl ⟨⟨by omega,by omega⟩,rfl⟩,?_⟩) |(refine And.intro (by simp only [lens_all,its_len]; first | done | omega) ?_) | fail
    conv=>whnf
    rw [frz_len (by simp)]
    rfl
end
end Go.Proofs.YtelbhbadkbcakaaGreat
