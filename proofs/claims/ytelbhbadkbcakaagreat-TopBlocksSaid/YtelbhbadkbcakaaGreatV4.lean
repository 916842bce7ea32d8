/- A vector of items: the document's function. Vectors of whatever items. Vectors of whatever items can be; one over the other. Parts of a vector, and what is better. What two vectors come to, from both sides and in any order. Vectors folded: sums, tests, the least. What holds of a vector's values; its least item. The least of what two vectors come to. Vectors folded: the document's functions. The document's sums of a vector, and its values. The document's values of a vector at places. Which places are none. -/
import Derived.Test.YtelbhbadkbcakaaGreatV3
import Derived.Test.YtelbhbadkbcakaaGreatF3
namespace Go.Proofs.YtelbhbadkbcakaaGreat
section
open Go.RowKit
attribute [local irreducible] FS FO IT HS
theorem frz_own2 {H : List Blk} {F : List SV -> Prop} {k wd n : Nat} {xs : List (List SV)} {x : SV} {rest : List SV} (hx : x.pure = true) (hk : H[k]? = some (.arr wd xs)) (hn : n = xs.length) (hp : SV.pure.pureL rest = true) (h : F (x::.slc wd xs::rest)) : frzs (frzK 4 H) (x::.osl k wd 0 n::rest) F:=by
  have h1 : frzK 4 H (.osl k wd 0 n) fun y=>frzs (frzK 4 H) rest fun ys=>F (x::y::ys):=by
    show match H[k]? with
      | some (.arr wd' xs)=>wd' = wd /\ 0 + n <= xs.length /\ frzs (frzK 4 H) rest fun ys=>F (x::.slc wd ((xs.drop 0).take n)::ys)
      | _=>False
    rw [hk]
    refine ⟨rfl,by omega,frzs_pure (frz_pure 4) rest _ hp ?_⟩
    rw [List.drop_zero,hn,List.take_length]
    exact h
  exact frz_pure 4 x (fun y=>frzs (frzK 4 H) (.osl k wd 0 n::rest) fun ys=>F (y::ys)) hx h1
theorem eds_loose (l : List (Int × Int × Int)) : ∀ b ∈ [Blk.arr 3 (eds l)],Blk.loose b:=fun b hb=>by
  rw [List.mem_singleton.1 hb]
  intro x hx
  obtain ⟨y,_,rfl⟩:=List.mem_map.1 hx
  rfl
theorem cmb_len (r : Int) : ∀ (l : List (Int × Int × Int)) (E : List (Int × Int × Int)) (S : List Int),E.length = S.length -> (l.foldl (cStep r) (E,S)).1.length = (l.foldl (cStep r) (E,S)).2.length /\ (l.foldl (cStep r) (E,S)).1.length <= E.length + l.length
  | [],E,S,h=>⟨h,Nat.le_refl _⟩
  | x :: l, E, S, h => by
    have h1:=cStep_len r h x
    have h2:=cmb_len r l (cStep r (E,S) x).1 (cStep r (E,S) x).2 h1.1
    refine ⟨h2.1,Nat.le_trans h2.2 ?_⟩
    simp only [List.length_cons]; omega
theorem cmbR_len (r : Int) (l : List (Int × Int × Int)) : (cmbR r l).1.length <= l.length:=by
  have h:=cmb_len r l [] [] rfl
  unfold cmbR
  split
  . split
    . show (nrE _ _ _).length <= _
      rw [nrE_len]
      have:=h.2
      unfold cmb
      simp at this; omega
    . simp
  . simp
def toE (x : Int × Int) : Int × Int × Int:=(0,x.1,x.2)
def toI (x : Int × Int × Int) : Int × Int:=(x.2.1,x.2.2)
def inN (n : Int) (x : Int × Int) : Bool:=decide (0 <= x.1) && decide (x.1 < n)
def ofR (r n : Int) (l : List (Int × Int)) : Int × List (Int × Int) × Int :=
  if isR r = true then
    (if 0 <= n /\ n <= 4096 then
      (if l.all (inN n) = true then (if (cmbR r (l.map toE)).2 = 0 then (n,(cmbR r (l.map toE)).1.map toI,0) else (0,[],(cmbR r (l.map toE)).2)) else (0,[],3))
    else (0,[],3))
  else (0,[],8)
def ir_fretworkref09_Of : IR :=
(.seq (.reg (⟨some 6,.al [.int .i64 0,.nils],none⟩::⟨some 7,.mv (.c (.int .i64 0)),none⟩::[])) (.seq (.seq (.reg (⟨some 13,.mv (.t 0),none⟩::⟨some 14,.call (.c (.fn 73 [])) [(.t 13)],none⟩::⟨some 15,.un .not (.t 14),none⟩::[])) (.cond (.t 15) (.seq (.reg (⟨some 16,.bld [.int .i64 0,.nils] [],none⟩::⟨none,.st 2 (.t 6) (.t 16),none⟩::⟨some 7,.mv (.c (.int .i64 8)),none⟩::[])) .ret) .skip)) (.seq (.seq (.reg (⟨some 17,.mv (.t 1),none⟩::⟨some 18,.bin .lss (.t 17) (.c (.int .i64 0)),none⟩::⟨some 19,.mv (.t 18),none⟩::⟨some 20,.mv (.t 1),some (19,false)⟩::⟨some 21,.bin .gtr (.t 20) (.c (.int .i64 4096)),some (19,false)⟩::⟨some 22,.pick (.t 19) (.c (.bool true)) (.t 21),none⟩::[])) (.cond (.t 22) (.seq (.reg (⟨some 23,.bld [.int .i64 0,.nils] [],none⟩::⟨none,.st 2 (.t 6) (.t 23),none⟩::⟨some 7,.mv (.c (.int .i64 3)),none⟩::[])) .ret) .skip)) (.seq (.reg (⟨some 8,.mv (.c (.nils)),none⟩::[])) (.seq (.seq (.reg (⟨some 9,.mv (.c (.int .i64 0)),none⟩::[])) (.block 0 (.loop (.seq (.seq (.reg (⟨some 24,.mv (.t 9),none⟩::⟨some 25,.mv (.t 2),none⟩::⟨some 26,.ln (.t 25),none⟩::⟨some 27,.bin .lss (.t 24) (.t 26),none⟩::[])) (.cond (.t 27) .skip (.exit 0))) (.seq (.block 1 (.seq (.seq (.reg (⟨some 30,.mv (.t 2),none⟩::⟨some 31,.mv (.t 9),none⟩::⟨some 32,.ia 2 (.t 30) (.t 31),none⟩::⟨some 33,.fa 0 (.t 32),none⟩::⟨some 34,.ld 1 false (.t 33),none⟩::⟨some 35,.bin .lss (.t 34) (.c (.int .i64 0)),none⟩::⟨some 36,.mv (.t 35),none⟩::⟨some 37,.mv (.t 2),some (36,false)⟩::⟨some 38,.mv (.t 9),some (36,false)⟩::⟨some 39,.ia 2 (.t 37) (.t 38),some (36,false)⟩::⟨some 40,.fa 0 (.t 39),some (36,false)⟩::⟨some 41,.ld 1 false (.t 40),some (36,false)⟩::⟨some 42,.mv (.t 1),some (36,false)⟩::⟨some 43,.bin .geq (.t 41) (.t 42),some (36,false)⟩::⟨some 44,.pick (.t 36) (.c (.bool true)) (.t 43),none⟩::[])) (.cond (.t 44) (.seq (.reg (⟨some 45,.bld [.int .i64 0,.nils] [],none⟩::⟨none,.st 2 (.t 6) (.t 45),none⟩::⟨some 7,.mv (.c (.int .i64 3)),none⟩::[])) .ret) .skip)) (.draw (⟨some 46,.mv (.t 8),none⟩::⟨some 47,.mv (.t 2),none⟩::⟨some 48,.mv (.t 9),none⟩::⟨some 49,.ia 2 (.t 47) (.t 48),none⟩::⟨some 50,.fa 0 (.t 49),none⟩::⟨some 51,.ld 1 false (.t 50),none⟩::⟨some 52,.mv (.t 2),none⟩::⟨some 53,.mv (.t 9),none⟩::⟨some 54,.ia 2 (.t 52) (.t 53),none⟩::⟨some 55,.fa 1 (.t 54),none⟩::⟨some 56,.ld 1 false (.t 55),none⟩::⟨some 57,.bld [.int .i64 0,.int .i64 0,.int .i64 0] [(1,1,(.t 51)),(2,1,(.t 56))],none⟩::⟨some 58,.bsl 1 3 [.int .i64 0,.int .i64 0,.int .i64 0] [(0,(.t 57))],none⟩::[]) (⟨some 59,.ap 3 24 (.t 46) (.t 58),none⟩::⟨some 8,.mv (.t 59),none⟩::[])))) (.reg (⟨some 28,.mv (.t 9),none⟩::⟨some 29,.bin .add (.t 28) (.c (.int .i64 1)),none⟩::⟨some 9,.mv (.t 29),none⟩::[]))))))) (.seq (.reg (⟨some 61,.mv (.t 0),none⟩::⟨some 62,.mv (.t 8),none⟩::⟨some 63,.call (.c (.fn 74 [])) [(.t 61),(.t 62)],none⟩::⟨some 60,.mv (.t 63),none⟩::⟨some 64,.ex 0 (.t 60),none⟩::⟨some 65,.ex 1 (.t 60),none⟩::⟨some 8,.mv (.t 64),none⟩::⟨some 10,.mv (.t 65),none⟩::[])) (.seq (.seq (.reg (⟨some 66,.mv (.t 10),none⟩::⟨some 67,.bin .neq (.t 66) (.c (.int .i64 0)),none⟩::[])) (.cond (.t 67) (.seq (.reg (⟨some 68,.bld [.int .i64 0,.nils] [],none⟩::⟨some 69,.mv (.t 10),none⟩::⟨none,.st 2 (.t 6) (.t 68),none⟩::⟨some 7,.mv (.t 69),none⟩::[])) .ret) .skip)) (.seq (.reg (⟨some 70,.mv (.t 1),none⟩::⟨some 71,.bld [.int .i64 0,.nils] [(0,1,(.t 70))],none⟩::⟨some 11,.al [.int .i64 0,.nils],none⟩::⟨none,.st 2 (.t 11) (.t 71),none⟩::[])) (.seq (.seq (.reg (⟨some 12,.mv (.c (.int .i64 0)),none⟩::[])) (.block 2 (.loop (.seq (.seq (.reg (⟨some 72,.mv (.t 12),none⟩::⟨some 73,.mv (.t 8),none⟩::⟨some 74,.ln (.t 73),none⟩::⟨some 75,.bin .lss (.t 72) (.t 74),none⟩::[])) (.cond (.t 75) .skip (.exit 2))) (.seq (.block 3 (.draw (⟨some 78,.fa 1 (.t 11),none⟩::⟨some 79,.ld 1 false (.t 78),none⟩::⟨some 80,.mv (.t 8),none⟩::⟨some 81,.mv (.t 12),none⟩::⟨some 82,.ia 3 (.t 80) (.t 81),none⟩::⟨some 83,.fa 1 (.t 82),none⟩::⟨some 84,.ld 1 false (.t 83),none⟩::⟨some 85,.mv (.t 8),none⟩::⟨some 86,.mv (.t 12),none⟩::⟨some 87,.ia 3 (.t 85) (.t 86),none⟩::⟨some 88,.fa 2 (.t 87),none⟩::⟨some 89,.ld 1 false (.t 88),none⟩::⟨some 90,.bld [.int .i64 0,.int .i64 0] [(0,1,(.t 84)),(1,1,(.t 89))],none⟩::⟨some 91,.bsl 1 2 [.int .i64 0,.int .i64 0] [(0,(.t 90))],none⟩::[]) (⟨some 92,.ap 2 16 (.t 79) (.t 91),none⟩::⟨some 93,.fa 1 (.t 11),none⟩::⟨none,.st 1 (.t 93) (.t 92),none⟩::[]))) (.reg (⟨some 76,.mv (.t 12),none⟩::⟨some 77,.bin .add (.t 76) (.c (.int .i64 1)),none⟩::⟨some 12,.mv (.t 77),none⟩::[]))))))) (.seq (.reg (⟨some 94,.ld 2 true (.t 11),none⟩::⟨none,.st 2 (.t 6) (.t 94),none⟩::⟨some 7,.mv (.c (.int .i64 0)),none⟩::[])) .ret))))))))))
theorem cd_fretworkref09_Of : Code1 Tryz.prog 42 95 ir_fretworkref09_Of [.c 2 true 6,.t 7]:=⟨Tryz.call42,_,_,Tryz.func42,rfl,by kernel_rfl,by kernel_rfl,by kernel_rfl,by kernel_rfl⟩
set_option maxHeartbeats 8000000 in
theorem fo_r9Of (r n : Int) (l : List (Int × Int)) (hl : l.length <= 1000000) (hb : Ib l) : FO Tryz.prog 42 [.int .i64 r,.int .i64 n,IL l] (.tup [.agg [.int .i64 (ofR r n l).1,.osl 0 2 0 (ofR r n l).2.1.length],.int .i64 (ofR r n l).2.2]) [.arr 2 (its (ofR r n l).2.1)]:=by
  refine fo_of_cvc mixed cd_fretworkref09_Of (by simp) ?_
  have c1:=fs_r2Is r
  have hll:=its_len l
  obtain ⟨t,ht⟩ : ∃ t,ofR r n l = t:=⟨_,rfl⟩
  rw [ht]
  unfold ofR at ht
  cases hR : isR r with
  | false =>
    rw [hR] at ht c1
    rw [if_neg (by simp)] at ht
    subst ht
    repeat' (conv=>whnf); first |(refine Or.inl ⟨by rfl,_,c1,?_⟩) | refine Br.tt ?_ | refine And.intro rfl ?_ |(refine And.intro (by simp only [lens_all]; first | done | omega) ?_) | fail
    exact Or.inr (Or.inr (FoS.no (MatL.tup (.cons (MatL.agg (.cons (.same _ rfl) (.cons (.nil 0 2) .nil))) (.cons (.same _ rfl) .nil))) rfl))
  | true =>
    rw [hR] at ht c1
    rw [if_pos rfl] at ht
    by_cases hn : 0 <= n /\ n <= 4096
    . obtain ⟨hn1,hn2⟩:=hn
      rw [if_pos ⟨hn1,hn2⟩] at ht
      repeat' (conv=>whnf); first |(refine Or.inl ⟨by rfl,_,c1,?_⟩) | refine Br.ff ?_ |(refine Br.dec (fun h=>?_) (fun h=>?_)) <;> try (exfalso; omega) | refine And.intro rfl ?_ | fail
      refine ⟨Nat,fun k=>k <= l.length /\ (l.take k).all (inN n) = true,fun k=>[(0,.int .i64 r),(1,.int .i64 n),(2,IL l),(6,.ptr 0 0 0 0),(8,.osl 1 3 0 k),(9,.int .i64 (k : Int))],fun k=>[.vars [.int .i64 0,.nils],.arr 3 (eds ((l.take k).map toE))],fun _=>none,fun k=>l.length - k,
        ⟨0,⟨Nat.zero_le _,rfl⟩,⟨rfl,rfl,rfl,rfl,⟨Nat.le_refl _,rfl,rfl⟩,rfl,trivial⟩,⟨⟨rfl,rfl,trivial⟩,rfl,trivial⟩,rfl⟩,fun k hk=>?_⟩
      obtain ⟨hk1,hk2⟩:=hk
      by_cases hkl : k < l.length
      . obtain ⟨x,hx⟩ : ∃ x,l.getD k (0,0) = x:=⟨_,rfl⟩
        have hst : l.take (k + 1) = l.take k ++ [x]:=by rw [vtake_more hkl,hx]
        have hxl : x ∈ l:=by rw [<- hx]; simp [hkl]
        have nall : inN n x = false -> (0,[],3) = t:=fun h=>by
          rw [<- ht,if_neg]
          intro h'
          rw [List.all_eq_true.1 h' x hxl] at h
          cases h
        repeat' (conv=>whnf); first |(refine its_go (i:=k) (by omega) ?_) |(refine And.intro (Or.inl (Nat.zero_le _)) ?_) |((refine And.intro (by intro y hy; simp at hy; subst hy; rfl) ?_)) | refine Br.tt ?_ | refine Br.ff ?_ |(refine Br.dec (fun h=>?_) (fun h=>?_)) <;> try (exfalso; omega) | refine And.intro rfl ?_ |(refine And.intro (by omega) ?_) |(refine ⟨_,Or.inl ⟨⟨by omega,by omega⟩,rfl⟩,?_⟩) |(refine And.intro (by simp only [lens_all,its_len,eds_len]; first | done | omega) ?_) |(refine And.intro (Nat.le_refl _) ?_) | fail
        . obtain rfl:=nall (by unfold inN; rw [<- hx,decide_eq_false (show ¬ 0 <= (l.getD k (0,0)).1 by omega)]; rfl)
          exact Or.inr (Or.inr (FoS.no (MatL.tup (.cons (MatL.agg (.cons (.same _ rfl) (.cons (.nil 0 2) .nil))) (.cons (.same _ rfl) .nil))) rfl))
        . obtain rfl:=nall (by unfold inN; rw [<- hx,decide_eq_false (show ¬ (l.getD k (0,0)).1 < n by omega),Bool.and_false])
          exact Or.inr (Or.inr (FoS.no (MatL.tup (.cons (MatL.agg (.cons (.same _ rfl) (.cons (.nil 0 2) .nil))) (.cons (.same _ rfl) .nil))) rfl))
        . refine ⟨k + 1,⟨by omega,?_⟩,(show l.length - (k + 1) < l.length - k by omega),⟨rfl,rfl,rfl,rfl,rfl,rfl,trivial⟩,⟨⟨rfl,rfl,trivial⟩,?_,trivial⟩,rfl⟩
          . rw [hst,List.all_append,hk2,<- hx]
            have i1 : decide (0 <= (l.getD k (0,0)).1) = true:=decide_eq_true (by omega)
            have i2 : decide ((l.getD k (0,0)).1 < n) = true:=decide_eq_true (by omega)
            simp only [List.all_cons,List.all_nil,inN,i1,i2]; rfl
          . rw [hst,List.map_append,eds_append,<- hx]; rfl
      . obtain rfl : k = l.length:=by omega
        rw [List.take_length] at hk2
        rw [if_pos hk2] at ht
        have hml : (l.map toE).length = l.length:=by simp
        have c5:=fo_r5Combine r (l.map toE) (by omega) fun x hx=>by
          obtain ⟨y,hy,rfl⟩:=List.mem_map.1 hx
          exact (hb y hy).2
        have hlen:=cmbR_len r (l.map toE)
        obtain ⟨c,hc⟩ : ∃ c,cmbR r (l.map toE) = c:=⟨_,rfl⟩
        rw [hc] at ht c5 hlen
        have heq : (eds ((l.take l.length).map toE)).length = l.length:=by rw [eds_len,List.take_length]; simp
        have hcl:=eds_len c.1
        have c6 : FO Tryz.prog 74 [.int .i64 r,.slc 3 (eds ((l.take l.length).map toE))] (.tup [.osl 0 3 0 c.1.length,.int .i64 c.2]) [.arr 3 (eds c.1)]:=by rw [List.take_length]; exact c5
        by_cases hc0 : c.2 = 0
        . rw [if_pos hc0] at ht
          repeat' (conv=>whnf); first |(refine Or.inr (Or.inr (Or.inr (Or.inr (Or.inl (frz_own2 rfl (by rfl) heq.symm rfl ⟨_,_,c6,rfl,eds_loose _,?_⟩)))))) |(refine Br.dec (fun h=>?_) (fun h=>?_)) <;> try (exfalso; omega) | refine And.intro rfl ?_ |(refine And.intro (by simp only [lens_all]; first | done | omega) ?_) | fail
          refine ⟨Nat,fun k=>k <= c.1.length,fun k=>[(6,.ptr 0 0 0 0),(8,.osl 2 3 0 c.1.length),(11,.ptr 3 0 0 0),(12,.int .i64 (k : Int))],fun k=>[.vars [.int .i64 0,.nils],.dead,.arr 3 (eds c.1),.vars [.int .i64 n,.osl 4 2 0 k],.arr 2 (its ((c.1.take k).map toI))],fun _=>none,fun k=>c.1.length - k,
            ⟨0,Nat.zero_le _,⟨rfl,rfl,rfl,rfl,trivial⟩,⟨⟨rfl,rfl,trivial⟩,trivial,rfl,⟨rfl,⟨Nat.le_refl _,rfl,rfl⟩,trivial⟩,rfl,trivial⟩,rfl⟩,fun k hk=>?_⟩
          have hk : k <= c.1.length:=hk
          by_cases hkc : k < c.1.length
          . have hst : c.1.take (k + 1) = c.1.take k ++ [c.1.getD k (0,0,0)]:=by rw [List.take_add_one]; simp [hkc]
            repeat' (conv=>whnf); first |(refine ⟨_,eds_at c.1 (j:=k) (by omega) (by omega),?_⟩) |(refine And.intro (Or.inl (Nat.zero_le _)) ?_) |((refine And.intro (by intro y hy; simp at hy; subst hy; rfl) ?_)) |(refine Br.dec (fun h=>?_) (fun h=>?_)) <;> try (exfalso; omega) | refine And.intro rfl ?_ |(refine And.intro (by omega) ?_) |(refine ⟨_,Or.inl ⟨⟨by omega,by omega⟩,rfl⟩,?_⟩) |(refine And.intro (by simp only [lens_all,its_len]; first | done | omega) ?_) |(refine And.intro (Nat.le_refl _) ?_) | fail
            refine ⟨k + 1,(show k + 1 <= c.1.length by omega),(show c.1.length - (k + 1) < c.1.length - k by omega),⟨rfl,rfl,rfl,rfl,trivial⟩,⟨⟨rfl,rfl,trivial⟩,trivial,rfl,⟨rfl,rfl,trivial⟩,?_,trivial⟩,rfl⟩
            refine congrArg (Blk.arr 2) ?_
            rw [hst,List.map_append,its_append]; rfl
          . obtain rfl : k = c.1.length:=by omega
            subst ht
            repeat' (conv=>whnf); first |(refine Br.dec (fun h=>?_) (fun h=>?_)) <;> try (exfalso; omega) | refine And.intro rfl ?_ |(refine And.intro (by simp only [lens_all]; first | done | omega) ?_) | fail
            have e0 : c.1.take c.1.length = c.1:=List.take_length
            have e1 : (c.1.map toI).length = c.1.length:=by simp
            refine Or.inr (Or.inr ?_)
            show FoS _ (.tup [.agg [.int .i64 n,.osl 4 2 0 c.1.length],.int .i64 0]) (.tup [.agg [.int .i64 n,.osl 0 2 0 (c.1.map toI).length],.int .i64 0]) [.arr 2 (its (c.1.map toI))]
            rw [e1]
            refine FoS.one 4 (MatL.tup (.cons (MatL.agg (.cons (.same _ rfl) (.cons (.osl 0 4 2 0 _ rfl) .nil))) (.cons (.same _ rfl) .nil))) ?_ rfl
            show some (Blk.arr 2 (its ((c.1.take c.1.length).map toI))) = _
            rw [e0]
        . rw [if_neg hc0] at ht
          subst ht
          repeat' (conv=>whnf); first |(refine Or.inr (Or.inr (Or.inr (Or.inr (Or.inl (frz_own2 rfl (by rfl) heq.symm rfl ⟨_,_,c6,rfl,eds_loose _,?_⟩)))))) |(refine Br.dec (fun h=>?_) (fun h=>?_)) <;> try (exfalso; omega) | refine And.intro rfl ?_ |(refine And.intro (by simp only [lens_all]; first | done | omega) ?_) | fail
          exact Or.inr (Or.inr (FoS.no (MatL.tup (.cons (MatL.agg (.cons (.same _ rfl) (.cons (.nil 0 2) .nil))) (.cons (.same _ rfl) .nil))) rfl))
    . rw [if_neg hn] at ht
      subst ht
      repeat' (conv=>whnf); first |(refine Or.inl ⟨by rfl,_,c1,?_⟩) | refine Br.tt ?_ | refine Br.ff ?_ |(refine Br.dec (fun h=>?_) (fun h=>?_)) <;> try (exfalso; omega) | refine And.intro rfl ?_ |(refine And.intro (by simp only [lens_all]; first | done | omega) ?_) | fail
      all_goals
        first
          | exact Or.inr (Or.inr (FoS.no (MatL.tup (.cons (MatL.agg (.cons (.same _ rfl) (.cons (.nil 0 2) .nil))) (.cons (.same _ rfl) .nil))) rfl))
          | skip
end
section
open Go.RowKit
attribute [local irreducible] FS FO IT HS
def smO (k : Int) (l : List (Int × Int)) : List (Int × Int):=(l.filter fun x=>decide (0 <= x.1)).map fun x=>(x.1.tmod k,x.2)
def smR (n : Int) (l : List (Int × Int)) : Int × List (Int × Int) × Int:=ofR 1 (n.tmod 60) (if 0 < n.tmod 60 then smO (n.tmod 60) (l.take 60) else [])
theorem smO_len (k : Int) (l : List (Int × Int)) : (smO k l).length <= l.length:=by
  unfold smO
  rw [List.length_map]
  exact List.length_filter_le _ _
theorem tmod_bd {a k : Int} (ha : 0 <= a) (hk : 0 < k) : 0 <= a.tmod k /\ a.tmod k < k:=by
  rw [Int.tmod_eq_emod_of_nonneg ha]
  exact ⟨Int.emod_nonneg _ (by omega),Int.emod_lt_of_pos _ hk⟩
theorem smO_in {k : Int} (hk : 0 < k) (hk2 : k <= 4096) {l : List (Int × Int)} (h : Ib l) : Ib (smO k l) /\ (smO k l).all (inN k) = true:=by
  constructor
  . intro x hx
    obtain ⟨y,hy,rfl⟩:=List.mem_map.1 hx
    obtain ⟨hy1,hy2⟩:=List.mem_filter.1 hy
    have:=tmod_bd (of_decide_eq_true hy2) hk
    exact ⟨by unfold I64; omega,(h y hy1).2⟩
  . rw [List.all_eq_true]
    intro x hx
    obtain ⟨y,hy,rfl⟩:=List.mem_map.1 hx
    obtain ⟨hy1,hy2⟩:=List.mem_filter.1 hy
    have:=tmod_bd (of_decide_eq_true hy2) hk
    unfold inN
    rw [decide_eq_true this.1,decide_eq_true this.2]; rfl
theorem smO_more {k : Int} {l : List (Int × Int)} {i : Nat} (h : i < l.length) : smO k (l.take (i + 1)) = smO k (l.take i) ++ (if 0 <= (l.getD i (0,0)).1 then [((l.getD i (0,0)).1.tmod k,(l.getD i (0,0)).2)] else []):=by
  unfold smO
  rw [vtake_more h,List.filter_append,List.map_append]
  congr 1
  split
  . rename_i h0
    rw [List.filter_cons,if_pos (decide_eq_true h0)]; rfl
  . rename_i h0
    rw [List.filter_cons,if_neg (by rw [decide_eq_true_eq]; exact h0)]; rfl
theorem frz_own3 {H : List Blk} {F : List SV -> Prop} {k wd n : Nat} {xs : List (List SV)} {x y : SV} {rest : List SV} (hx : x.pure = true) (hy : y.pure = true) (hk : H[k]? = some (.arr wd xs)) (hn : n = xs.length) (hp : SV.pure.pureL rest = true) (h : F (x::y::.slc wd xs::rest)) : frzs (frzK 4 H) (x::y::.osl k wd 0 n::rest) F :=
  frz_pure 4 x (fun z=>frzs (frzK 4 H) (y::.osl k wd 0 n::rest) fun ys=>F (z::ys)) hx (frz_own2 (F:=fun ys=>F (x::ys)) hy hk hn hp h)
theorem its_looseB (l : List (Int × Int)) : ∀ b ∈ [Blk.arr 2 (its l)],Blk.loose b:=fun b hb=>by
  rw [List.mem_singleton.1 hb]
  intro x hx
  obtain ⟨y,_,rfl⟩:=List.mem_map.1 hx
  rfl
def ir_fretworklaw09_Some : IR :=
(.seq (.reg (⟨some 4,.al [.int .i64 0,.nils],none⟩::[])) (.seq (.reg (⟨some 10,.mv (.t 0),none⟩::⟨some 11,.cv .i64 (.t 10),none⟩::⟨some 12,.bin .rem (.t 11) (.c (.int .i64 60)),none⟩::⟨some 5,.mv (.t 12),none⟩::[])) (.seq (.reg (⟨some 6,.mv (.c (.nils)),none⟩::[])) (.seq (.seq (.reg (⟨some 7,.mv (.c (.int .i64 0)),none⟩::[])) (.block 0 (.loop (.seq (.seq (.reg (⟨some 13,.mv (.t 7),none⟩::⟨some 14,.mv (.t 1),none⟩::⟨some 15,.ln (.t 14),none⟩::⟨some 16,.bin .lss (.t 13) (.t 15),none⟩::⟨some 17,.mv (.t 16),none⟩::⟨some 18,.mv (.t 7),some (17,true)⟩::⟨some 19,.bin .lss (.t 18) (.c (.int .i64 60)),some (17,true)⟩::⟨some 20,.pick (.t 17) (.t 19) (.c (.bool false)),none⟩::⟨some 21,.mv (.t 20),none⟩::⟨some 22,.mv (.t 5),some (21,true)⟩::⟨some 23,.bin .gtr (.t 22) (.c (.int .i64 0)),some (21,true)⟩::⟨some 24,.pick (.t 21) (.t 23) (.c (.bool false)),none⟩::[])) (.cond (.t 24) .skip (.exit 0))) (.seq (.block 1 (.seq (.reg (⟨some 27,.mv (.t 1),none⟩::⟨some 28,.mv (.t 7),none⟩::⟨some 29,.ia 2 (.t 27) (.t 28),none⟩::⟨some 30,.fa 0 (.t 29),none⟩::⟨some 31,.ld 1 false (.t 30),none⟩::⟨some 32,.bin .geq (.t 31) (.c (.int .i64 0)),none⟩::[])) (.cond (.t 32) (.draw (⟨some 33,.mv (.t 6),none⟩::⟨some 34,.mv (.t 1),none⟩::⟨some 35,.mv (.t 7),none⟩::⟨some 36,.ia 2 (.t 34) (.t 35),none⟩::⟨some 37,.fa 0 (.t 36),none⟩::⟨some 38,.ld 1 false (.t 37),none⟩::⟨some 39,.mv (.t 5),none⟩::⟨some 40,.bin .rem (.t 38) (.t 39),none⟩::⟨some 41,.mv (.t 1),none⟩::⟨some 42,.mv (.t 7),none⟩::⟨some 43,.ia 2 (.t 41) (.t 42),none⟩::⟨some 44,.fa 1 (.t 43),none⟩::⟨some 45,.ld 1 false (.t 44),none⟩::⟨some 46,.bld [.int .i64 0,.int .i64 0] [(0,1,(.t 40)),(1,1,(.t 45))],none⟩::⟨some 47,.bsl 1 2 [.int .i64 0,.int .i64 0] [(0,(.t 46))],none⟩::[]) (⟨some 48,.ap 2 16 (.t 33) (.t 47),none⟩::⟨some 6,.mv (.t 48),none⟩::[])) .skip))) (.reg (⟨some 25,.mv (.t 7),none⟩::⟨some 26,.bin .add (.t 25) (.c (.int .i64 1)),none⟩::⟨some 7,.mv (.t 26),none⟩::[]))))))) (.seq (.reg (⟨some 50,.mv (.t 5),none⟩::⟨some 51,.mv (.t 6),none⟩::⟨some 52,.call (.c (.fn 42 [])) [(.c (.int .i64 1)),(.t 50),(.t 51)],none⟩::⟨some 49,.mv (.t 52),none⟩::⟨some 53,.ex 0 (.t 49),none⟩::⟨some 54,.ex 1 (.t 49),none⟩::⟨some 8,.al [.int .i64 0,.nils],none⟩::⟨none,.st 2 (.t 8) (.t 53),none⟩::⟨some 9,.mv (.t 54),none⟩::[])) (.seq (.reg (⟨some 55,.ld 2 true (.t 8),none⟩::⟨none,.st 2 (.t 4) (.t 55),none⟩::[])) .ret))))))
theorem cd_fretworklaw09_Some : Code1 Tryz.prog 16 56 ir_fretworklaw09_Some [.c 2 true 4]:=⟨Tryz.call16,_,_,Tryz.func16,rfl,by kernel_rfl,by kernel_rfl,by kernel_rfl,by kernel_rfl⟩
set_option maxHeartbeats 8000000 in
theorem fs_Some (n : Int) (l : List (Int × Int)) (hn : 0 ≤ n ∧ n ≤ 255) (hb : Ib l) : FS Tryz.prog 16 [.int .u8 n, IL l] (VC (smR n l).1 (smR n l).2.1) := by
  refine fs_of_cvc mixed cd_fretworklaw09_Some (by simp) ?_
  have hll:=its_len l
  obtain ⟨K,hK⟩ : ∃ K,n.tmod 60 = K:=⟨_,rfl⟩
  have hK2 : 0 <= K /\ K < 60:=by rw [<- hK]; exact tmod_bd hn.1 (by omega)
  obtain ⟨t,ht⟩ : ∃ t,smR n l = t:=⟨_,rfl⟩
  rw [ht]
  unfold smR at ht
  rw [hK] at ht
  have e60 : (l.take 60).length <= 60:=by simp; omega
  repeat' (conv=>whnf); first | refine And.intro rfl ?_ |(refine And.intro (by omega) ?_) |(refine ⟨_,Or.inl ⟨⟨by omega,by omega⟩,rfl⟩,?_⟩) | fail
  refine ⟨Nat,fun k=>k <= (l.take 60).length /\ (k = 0 \/ 0 < K),fun k=>[(1,IL l),(4,.ptr 0 0 0 0),(5,.int .i64 K),(6,.osl 1 2 0 (smO K ((l.take 60).take k)).length),(7,.int .i64 (k : Int))],fun k=>[.vars [.int .i64 0,.nils],.arr 2 (its (smO K ((l.take 60).take k)))],fun _=>none,fun k=>(l.take 60).length - k,
    ⟨0,⟨Nat.zero_le _,Or.inl rfl⟩,⟨rfl,rfl,?_,⟨Nat.le_refl _,rfl,rfl⟩,rfl,trivial⟩,⟨⟨rfl,rfl,trivial⟩,rfl,trivial⟩,rfl⟩,fun k hk=>?_⟩
  . exact congrArg (SV.int .i64) hK
  obtain ⟨hk1,hk2⟩:=hk
  have h6 : (l.take 60).length = min 60 l.length:=List.length_take
  have hsl:=smO_len K ((l.take 60).take k)
  have hsl2 : ((l.take 60).take k).length <= k:=by rw [List.length_take]; omega
  have hil:=its_len (smO K ((l.take 60).take k))
  by_cases hkl : k < (l.take 60).length /\ 0 < K
  . obtain ⟨hkl,hK0⟩:=hkl
    have hst:=smO_more (k:=K) hkl
    have hg : (l.take 60).getD k (0,0) = l.getD k (0,0):=by
      rw [List.getD_eq_getElem?_getD,List.getD_eq_getElem?_getD,List.getElem?_take_of_lt (by omega)]
    rw [hg] at hst
    have hx : l.getD k (0,0) ∈ l:=by simp [show k < l.length by omega]
    have htb : 0 <= (l.getD k (0,0)).1 -> (0 <= (l.getD k (0,0)).1.tmod K /\ (l.getD k (0,0)).1.tmod K < K):=fun h=>tmod_bd h hK0
    repeat' (conv=>whnf); first |(refine its_go (i:=k) (by omega) ?_) |(refine And.intro (Or.inl (Nat.zero_le _)) ?_) |((refine And.intro (by intro y hy; simp at hy; subst hy; rfl) ?_)) | refine Br.tt ?_ |(refine Br.dec (fun h=>?_) (fun h=>?_)) <;> try (exfalso; omega) | refine And.intro rfl ?_ |(refine And.intro (by omega) ?_) |(refine ⟨_,Or.inl ⟨⟨by omega,by omega⟩,rfl⟩,?_⟩) |(refine And.intro (by simp only [lens_all,its_len]; first | done | omega) ?_) |(refine And.intro (Nat.le_refl _) ?_) | fail
    . have hge:=h
      rw [if_pos (show 0 <= (l.getD k (0,0)).1 by omega)] at hst
      refine ⟨k + 1,⟨by omega,Or.inr hK0⟩,(show (l.take 60).length - (k + 1) < (l.take 60).length - k by omega),⟨rfl,rfl,rfl,?_,rfl,trivial⟩,⟨⟨rfl,rfl,trivial⟩,?_,trivial⟩,rfl⟩
      . refine congrArg (SV.osl 1 2 0) ?_
        rw [hst]; simp
      . refine congrArg (Blk.arr 2) ?_
        rw [hst,its_append]; rfl
    . have hge:=h
      rw [if_neg (show ¬ 0 <= (l.getD k (0,0)).1 by omega),List.append_nil] at hst
      refine ⟨k + 1,⟨by omega,Or.inr hK0⟩,(show (l.take 60).length - (k + 1) < (l.take 60).length - k by omega),⟨rfl,rfl,rfl,?_,rfl,trivial⟩,⟨⟨rfl,rfl,trivial⟩,?_,trivial⟩,rfl⟩
      . refine congrArg (SV.osl 1 2 0) ?_
        rw [hst]
      . refine congrArg (Blk.arr 2) ?_
        rw [hst]
  . have hw : (if 0 < K then smO K (l.take 60) else []) = smO K ((l.take 60).take k):=by
      by_cases h0 : 0 < K
      . rw [if_pos h0]
        have : k = (l.take 60).length:=by omega
        rw [this,List.take_length]
      . rw [if_neg h0]
        have : k = 0:=by omega
        rw [this]; rfl
    rw [hw] at ht
    have hib : Ib (smO K ((l.take 60).take k)):=by
      by_cases h0 : 0 < K
      . exact (smO_in h0 (by omega) fun x hx=>hb x (List.mem_of_mem_take (List.mem_of_mem_take hx))).1
      . have : k = 0:=by omega
        rw [this]; intro x hx; cases hx
    have c1:=fo_r9Of 1 K (smO K ((l.take 60).take k)) (by omega) hib
    rw [ht] at c1
    by_cases hkl2 : k < 60
    all_goals
      repeat' (conv=>whnf); first |(refine Or.inr (Or.inr (Or.inr (Or.inr (Or.inl (frz_own3 rfl rfl (by rfl) (its_len _).symm rfl ⟨_,_,c1,rfl,its_looseB _,?_⟩)))))) | refine Br.tt ?_ | refine Br.ff ?_ |(refine Br.dec (fun h=>?_) (fun h=>?_)) <;> try (exfalso; omega) | refine And.intro rfl ?_ |(refine And.intro (by simp only [lens_all,its_len]; first | done | omega) ?_) | fail
    all_goals
      conv=>whnf
      rw [frz_its]
      rfl
theorem bel0 {x y : Int × Int × Int} (hx : x.1 = 0) (hy : y.1 = 0) : bel x y = decide (x.2.1 < y.2.1):=by
  unfold bel
  rw [hx,hy]
  simp
def OkE (K : Int) (E : List (Int × Int × Int)) : Prop:=(∀ e ∈ E,e.1 = 0 /\ 0 <= e.2.1 /\ e.2.1 < K) /\ (E.map fun e=>e.2.1).Pairwise (· < ·)
theorem cStep_ok {r K : Int} {E : List (Int × Int × Int)} {S : List Int} (h : OkE K E) {x : Int × Int × Int} (hx : x.1 = 0 /\ 0 <= x.2.1 /\ x.2.1 < K) : OkE K (cStep r (E,S) x).1:=by
  unfold cStep
  split
  . exact h
  . rename_i hns
    refine ⟨fun e he=>?_,?_⟩
    . rcases List.mem_append.1 he with he | he
      . exact h.1 e (List.mem_of_mem_take he)
      . rcases List.mem_cons.1 he with he | he
        . subst he; exact hx
        . exact h.1 e (List.mem_of_mem_drop he)
    . show ((E.take (cpos E x) ++ (x.1,x.2.1,0)::E.drop (cpos E x)).map fun e=>e.2.1).Pairwise (· < ·)
      have h2:=h.2
      have hsp : E.take (cpos E x) ++ E.drop (cpos E x) = E:=List.take_append_drop _ _
      rw [<- hsp,List.map_append,List.pairwise_append] at h2
      obtain ⟨p1,p2,p3⟩:=h2
      have hlt : ∀ e ∈ E.take (cpos E x),e.2.1 < x.2.1:=fun e he=>by
        obtain ⟨i,hi,rfl⟩:=List.mem_iff_getElem.1 he
        have hi' : i < cpos E x:=by simp at hi; omega
        have hi2 : i < E.length:=by simp at hi; omega
        have:=cpos_lt hi'
        rw [show E.getD i (0,0,0) = E[i] by simp [hi2],bel0 (h.1 _ (List.getElem_mem hi2)).1 hx.1] at this
        simpa using of_decide_eq_true this
      have hgt : ∀ e ∈ E.drop (cpos E x),x.2.1 < e.2.1:=fun e he=>by
        cases hd : E.drop (cpos E x) with
        | nil=>rw [hd] at he; cases he
        | cons f F =>
          have hlen : cpos E x < E.length:=by
            rcases Nat.lt_or_ge (cpos E x) E.length with h' | h'
            . exact h'
            . rw [List.drop_eq_nil_of_le h'] at hd; cases hd
          have hf : E.getD (cpos E x) (0,0,0) = f:=by
            have:=congrArg (fun l=>l[0]?) hd
            simp at this
            simp [this]
          have hfm : f ∈ E:=List.mem_of_mem_drop (by rw [hd]; exact List.mem_cons_self)
          have hxf : x.2.1 < f.2.1:=by
            have : bel x f = true:=by
              cases hb : bel x f with
              | true=>rfl
              | false=>exact absurd ⟨hlen,by rw [hf]; exact hb⟩ hns
            rw [bel0 hx.1 (h.1 f hfm).1] at this
            exact of_decide_eq_true this
          rw [hd] at he p2
          rcases List.mem_cons.1 he with he | he
          . subst he; exact hxf
          . have:=(List.pairwise_cons.1 p2).1 e.2.1 (List.mem_map.2 ⟨e,he,rfl⟩)
            simp only at this
            omega
      rw [List.map_append,List.map_cons,List.pairwise_append,List.pairwise_cons]
      refine ⟨p1,⟨fun y hy=>?_,p2⟩,fun y hy z hz=>?_⟩
      . obtain ⟨e,he,rfl⟩:=List.mem_map.1 hy
        exact hgt e he
      . obtain ⟨e,he,rfl⟩:=List.mem_map.1 hy
        rcases List.mem_cons.1 hz with hz | hz
        . subst hz; exact hlt e he
        . obtain ⟨f,hf,rfl⟩:=List.mem_map.1 hz
          have:=hlt e he
          have:=hgt f hf
          omega
theorem cStep_i {E : List (Int × Int × Int)} {S : List Int} (h : ∀ s ∈ S,I64 s) {x : Int × Int × Int} (hx : I64 x.2.2) : ∀ s ∈ (cStep 1 (E,S) x).2,I64 s:=by
  intro s hs
  unfold cStep at hs
  split at hs
  . rcases List.mem_or_eq_of_mem_set hs with hs | hs
    . exact h s hs
    . subst hs
      have hd : I64 (S.getD (cpos E x) 0):=by
        by_cases hp : cpos E x < S.length
        . have : S.getD (cpos E x) 0 = S[cpos E x]:=by simp [hp]
          rw [this]; exact h _ (List.getElem_mem hp)
        . have : S.getD (cpos E x) 0 = 0:=by simp [List.getElem?_eq_none (show S.length <= cpos E x by omega)]
          rw [this]; unfold I64; omega
      show I64 (if lt3 1 = true then (if S.getD (cpos E x) 0 <= x.2.2 then S.getD (cpos E x) 0 else x.2.2) else _)
      rw [if_pos (by decide)]
      split
      . exact hd
      . exact hx
  . rcases List.mem_append.1 hs with hs | hs
    . exact h s (List.mem_of_mem_take hs)
    . rcases List.mem_cons.1 hs with hs | hs
      . subst hs; exact hx
      . exact h s (List.mem_of_mem_drop hs)
end
section
open Go.RowKit
attribute [local irreducible] FS FO IT HS
theorem cmb_ok {K : Int} : ∀ (l E : List (Int × Int × Int)) (S : List Int),OkE K E -> (∀ s ∈ S,I64 s) -> (∀ x ∈ l,(x.1 = 0 /\ 0 <= x.2.1 /\ x.2.1 < K) /\ I64 x.2.2) -> OkE K (l.foldl (cStep 1) (E,S)).1 /\ ∀ s ∈ (l.foldl (cStep 1) (E,S)).2,I64 s
  | [],E,S,h1,h2,_=>⟨h1,h2⟩
  | x :: l, E, S, h1, h2, h3 => by
    have hx:=h3 x (by simp)
    exact cmb_ok l (cStep 1 (E,S) x).1 (cStep 1 (E,S) x).2 (cStep_ok h1 hx.1) (cStep_i h2 hx.2) fun y hy=>h3 y (by simp [hy])
theorem fits_i {x : Int} (h : I64 x) : fits x = true:=by
  unfold I64 at h
  unfold fits
  exact decide_eq_true (by omega)
theorem nar_i (x : Int) : I64 (nar x):=by
  unfold nar fits I64
  split
  . rename_i h; have:=of_decide_eq_true h; omega
  . omega
theorem of_ok {K : Int} (h0 : 0 <= K) (h1 : K <= 4096) {W : List (Int × Int)} (hb : Ib W) (hi : W.all (inN K) = true) : ∃ a,ofR 1 K W = (K,a,0) /\ OkV K a /\ Ib a /\ a.length <= W.length:=by
  have hc:=cmb_ok (K:=K) (W.map toE) [] [] ⟨by simp,by simp⟩ (by simp) fun x hx=>by
    obtain ⟨y,hy,rfl⟩:=List.mem_map.1 hx
    have:=List.all_eq_true.1 hi y hy
    unfold inN at this
    rw [Bool.and_eq_true,decide_eq_true_eq,decide_eq_true_eq] at this
    exact ⟨⟨rfl,this⟩,(hb y hy).2⟩
  have hlen:=cmb_len 1 (W.map toE) [] [] rfl
  have e1 : cmbR 1 (W.map toE) = (nrE (cmb 1 (W.map toE)).1 (cmb 1 (W.map toE)).2 (cmb 1 (W.map toE)).1.length,0):=by
    unfold cmbR
    rw [if_pos (by decide),if_pos]
    rw [List.all_eq_true]
    exact fun s hs=>fits_i (hc.2 s hs)
  have hc1 : OkE K (cmb 1 (W.map toE)).1:=hc.1
  have hlen2 : (cmb 1 (W.map toE)).1.length <= W.length:=by
    have:=hlen.2
    unfold cmb
    simpa using this
  generalize (cmb 1 (W.map toE)).1 = E at *
  generalize (cmb 1 (W.map toE)).2 = S at *
  have e2 : ((nrE E S E.length).map toI).map (fun x=>x.1) = E.map fun e=>e.2.1:=by
    apply List.ext_getElem?
    intro i
    by_cases h : i < E.length <;> simp [nrE,toI,h]
  refine ⟨(nrE E S E.length).map toI,?_,⟨h0,h1,?_,fun x hx=>?_⟩,fun x hx=>?_,by simp [nrE_len]; exact hlen2⟩
  . unfold ofR
    rw [if_pos (by decide),if_pos ⟨h0,h1⟩,if_pos hi,e1]
    rfl
  . have:=hc1.2
    rw [<- e2,List.pairwise_map] at this
    exact this
  . have : x.1 ∈ E.map fun e=>e.2.1:=by rw [<- e2]; exact List.mem_map.2 ⟨x,hx,rfl⟩
    obtain ⟨e,he,h⟩:=List.mem_map.1 this
    have:=hc1.1 e he
    have h' : e.2.1 = x.1:=h
    omega
  . have : x.1 ∈ E.map fun e=>e.2.1:=by rw [<- e2]; exact List.mem_map.2 ⟨x,hx,rfl⟩
    obtain ⟨e,he,h⟩:=List.mem_map.1 this
    have h2:=hc1.1 e he
    have h' : e.2.1 = x.1:=h
    refine ⟨by unfold I64; omega,?_⟩
    obtain ⟨y,hy,rfl⟩:=List.mem_map.1 hx
    unfold nrE at hy
    obtain ⟨i,hi',rfl⟩:=List.mem_map.1 hy
    show I64 (if i < E.length then nar (S.getD i 0) else _)
    rw [if_pos (List.mem_range.1 hi')]
    exact nar_i _
theorem sm_ok {n : Int} (hn : 0 <= n /\ n <= 255) {l : List (Int × Int)} (hb : Ib l) : ∃ a,smR n l = (n.tmod 60,a,0) /\ OkV (n.tmod 60) a /\ Ib a /\ a.length <= 60:=by
  have hK:=tmod_bd hn.1 (show (0 : Int) < 60 by omega)
  unfold smR
  split
  . rename_i h0
    have h:=smO_in h0 (by omega) (l:=l.take 60) fun x hx=>hb x (List.mem_of_mem_take hx)
    obtain ⟨a,h1,h2,h3,h4⟩:=of_ok hK.1 (by omega) h.1 h.2
    have h5:=smO_len (n.tmod 60) (l.take 60)
    have h6 : (l.take 60).length <= 60:=by simp; omega
    exact ⟨a,h1,h2,h3,by omega⟩
  . obtain ⟨a,h1,h2,h3,h4⟩:=of_ok hK.1 (by omega) (W:=[]) (fun x hx=>by cases hx) rfl
    exact ⟨a,h1,h2,h3,by simp at h4; simp [h4]⟩
end
section
open Go.RowKit
attribute [local irreducible] FS FO IT HS
theorem filt_fm (p : Int × Int -> Bool) (l : List (Int × Int)) : l.filter p = l.filterMap fun x=>if p x = true then some x else none:=by
  rw [<- List.filterMap_eq_filter]
  congr 1
theorem gt_filt {p : Int × Int -> Bool} {l : List (Int × Int)} (hu : Up l) (k : Int) : gt (l.filter p) k = (gt l k).bind fun v=>if p (k,v) = true then some v else none:=by
  rw [filt_fm,gt_fm (fun x y h=>by
    split at h
    . cases h; rfl
    . cases h) hu]
  cases gt l k with
  | none=>rfl
  | some v =>
    show Option.map _ (if p (k,v) = true then some (k,v) else none) = if p (k,v) = true then some v else none
    split <;> rfl
theorem OkV.len {K : Int} : ∀ {l : List (Int × Int)} {j : Int},Up l -> (∀ x ∈ l,j <= x.1 /\ x.1 < K) -> j <= K -> (l.length : Int) <= K - j
  | [],j,_,_,hj=>by simp; omega
  | x :: l, j, hu, hl, hj => by
    have h1:=hl x (by simp)
    have:=OkV.len (l:=l) (j:=x.1 + 1) hu.tail (fun y hy=>⟨by have:=hu.head y hy; omega,(hl y (by simp [hy])).2⟩) (by omega)
    simp only [List.length_cons]; omega
theorem OkV.le {K : Int} {l : List (Int × Int)} (h : OkV K l) : l.length <= 4096:=by
  have:=OkV.len h.up h.lo h.n0
  have:=h.n1
  omega
end
section
open Go.RowKit
attribute [local irreducible] FS FO IT HS
end
section
open Go.RowKit
attribute [local irreducible] FS FO IT HS
theorem its_go' {l : List (Int × Int)} {x : Int × Int} {q i : Nat} {K : List SV -> Prop} (hq : q = i) (hx : l.getD i (0,0) = x) (h : K [.int .i64 x.1,.int .i64 x.2]) : ∀ y,(its l)[q]? = some y -> K y:=fun y hy=>by rw [its_is hy hq,hx]; exact h
end
section
open Go.RowKit
attribute [local irreducible] FS FO IT HS
def hold (t v k : Int) : Bool:=if t = 1 then decide (v < k) else if t = 2 then decide (k < v) else if t = 3 then decide (v = k) else if t = 4 then decide (v ≠ k) else false
def opsOf : Code -> List Oper
  | .region _ ops _=>ops.toList
  | .seq a b=>opsOf a ++ opsOf b
  | .cond _ a b=>opsOf a ++ opsOf b
  | .block _ a=>opsOf a
  | .loop a=>opsOf a
  | .scope a=>opsOf a
  | .rangeFunc _ _ a b=>opsOf a ++ opsOf b
  | _=>[]
def opAt (f : Func) (k : Nat) : Oper := match f.body with
  | some c => match (opsOf c)[k]? with
    | some o=>o
    | none => ⟨none, .panic (.tmp 0), 0, "", #[], none⟩
  | none => ⟨none, .panic (.tmp 0), 0, "", #[], none⟩
end
section
open Go.RowKit
attribute [local irreducible] FS FO IT HS
end
section
open Go.RowKit
attribute [local irreducible] FS FO IT HS
end
section
open Go.RowKit
attribute [local irreducible] FS FO IT HS
end
section
open Go.RowKit
attribute [local irreducible] FS FO IT HS
end
section
open Go.RowKit
attribute [local irreducible] FS FO IT HS
end
end Go.Proofs.YtelbhbadkbcakaaGreat
