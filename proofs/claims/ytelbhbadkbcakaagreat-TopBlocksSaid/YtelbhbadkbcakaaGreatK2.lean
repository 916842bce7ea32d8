/- A matrix, turned: csr.Turn. A matrix by its columns (plain). -/
import Derived.Test.YtelbhbadkbcakaaGreatK1
import Derived.Test.YtelbhbadkbcakaaGreatJ5
namespace Go.Proofs.YtelbhbadkbcakaaGreat
section
open Go.RowKit
attribute [local irreducible] FS FO IT HS
def swT (x : Tri) : Tri:=(x.2.1,x.1,x.2.2)
def trn (L : List Tri) : List Tri:=L.map swT
theorem trn_len (L : List Tri) : (trn L).length = L.length:=by simp [trn]
def trnI (L : List Tri) (i : Nat) : List Tri:=trn (L.take i) ++ L.drop i
theorem trnI_len (L : List Tri) (i : Nat) : (trnI L i).length = L.length:=by simp [trnI,trn]; omega
theorem trnI_at {L : List Tri} {i : Nat} {x : Tri} (h : L[i]? = some x) : (trnI L i)[i]? = some x:=by
  have hi:=(List.getElem?_eq_some_iff.1 h).1
  have hl : (trn (L.take i)).length = i:=by rw [trn_len,List.length_take]; omega
  unfold trnI
  rw [List.getElem?_append_right (by omega),hl,Nat.sub_self,List.getElem?_drop]
  exact h
theorem trnI_set {L : List Tri} {i : Nat} {x : Tri} (h : L[i]? = some x) : (trnI L i).set i (swT x) = trnI L (i + 1):=by
  have hi:=(List.getElem?_eq_some_iff.1 h).1
  have hl : (trn (L.take i)).length = i:=by rw [trn_len,List.length_take]; omega
  have hd : L.drop i = x::L.drop (i + 1):=by rw [List.drop_eq_getElem_cons hi,(List.getElem?_eq_some_iff.1 h).2]
  have ht : trn (L.take (i + 1)) = trn (L.take i) ++ [swT x]:=by rw [List.take_add_one,h]; simp [trn]
  unfold trnI
  rw [ht,hd,List.set_append_right _ _ (by omega),hl,Nat.sub_self]
  simp
theorem rise_nd {L : List Tri} (h : Rise L) : L.Pairwise fun a b=>¬ (a.1 = b.1 /\ a.2.1 = b.2.1):=h.imp fun {a b} h=>by
  rw [bel_iff] at h; omega
def turnT (L : List Tri) : List Tri:=sortT (trn L)
theorem turnT_len (L : List Tri) : (turnT L).length = L.length:=by unfold turnT; rw [sortT_len,trn_len]
theorem turnT_perm (L : List Tri) : (turnT L).Perm (trn L):=sortT_perm _
theorem turnT_rise {L : List Tri} (h : Rise L) : Rise (turnT L):=by
  have h1 : (trn L).Pairwise fun a b=>¬ (a.1 = b.1 /\ a.2.1 = b.2.1):=by
    unfold trn
    rw [List.pairwise_map]
    exact (rise_nd h).imp fun {a b} h=>by simp only [swT]; omega
  have h2 : (turnT L).Pairwise fun a b=>¬ (a.1 = b.1 /\ a.2.1 = b.2.1):=(turnT_perm L).symm.pairwise h1 fun h=>by omega
  have h3:=sortT_up (trn L)
  refine List.Pairwise.imp₂ (fun a b (h4 : ¬ (a.1 = b.1 /\ a.2.1 = b.2.1)) (h5 : bel b a = false)=>?_) h2 h3
  rw [<- Bool.not_eq_true,bel_iff] at h5
  rw [bel_iff]
  omega
theorem OkT.turn {rows cols : Int} {L : List Tri} (h : OkT rows cols L) : OkT cols rows (turnT L):=by
  refine ⟨h.c,h.r,turnT_rise h.rise,fun x hx=>?_,by rw [turnT_len]; exact h.len⟩
  have hx':=(turnT_perm L).mem_iff.1 hx
  unfold trn at hx'
  obtain ⟨y,hy,rfl⟩:=List.mem_map.1 hx'
  have:=h.inr y hy
  simp only [swT]
  omega
def ir_csr_Turn : IR :=
(.seq (.reg (⟨some 1,.bx (.t 0),none⟩::⟨some 2,.al [.int .i64 0,.int .i64 0,.nils,.nils,.nils],none⟩::[])) (.seq (.reg (⟨some 6,.ld 5 true (.t 1),none⟩::⟨some 7,.call (.c (.fn 46 [])) [(.t 6)],none⟩::⟨none,.st 5 (.t 1) (.t 7),none⟩::[])) (.seq (.reg (⟨some 8,.ld 5 true (.t 1),none⟩::⟨some 9,.call (.c (.fn 33 [])) [(.t 8)],none⟩::⟨some 3,.mv (.t 9),none⟩::[])) (.seq (.seq (.reg (⟨some 10,.mv (.t 3),none⟩::⟨some 11,.ln (.t 10),none⟩::⟨some 12,.mv (.c (.int .i64 0)),none⟩::[])) (.block 0 (.loop (.seq (.reg (⟨some 13,.bin .lss (.t 12) (.t 11),none⟩::[])) (.seq (.cond (.t 13) .skip (.exit 0)) (.seq (.block 1 (.seq (.reg (⟨some 14,.mv (.t 12),none⟩::⟨some 15,.ia 3 (.t 10) (.t 12),none⟩::⟨some 16,.ld 3 true (.t 15),none⟩::⟨some 5,.al [.int .i64 0,.int .i64 0,.int .i64 0],none⟩::⟨some 4,.mv (.t 14),none⟩::⟨none,.st 3 (.t 5) (.t 16),none⟩::[])) (.reg (⟨some 17,.mv (.t 3),none⟩::⟨some 18,.mv (.t 4),none⟩::⟨some 19,.fa 1 (.t 5),none⟩::⟨some 20,.ld 1 false (.t 19),none⟩::⟨some 21,.fa 0 (.t 5),none⟩::⟨some 22,.ld 1 false (.t 21),none⟩::⟨some 23,.fa 2 (.t 5),none⟩::⟨some 24,.ld 1 false (.t 23),none⟩::⟨some 25,.bld [.int .i64 0,.int .i64 0,.int .i64 0] [(0,1,(.t 20)),(1,1,(.t 22)),(2,1,(.t 24))],none⟩::⟨some 26,.ia 3 (.t 17) (.t 18),none⟩::⟨none,.st 3 (.t 26) (.t 25),none⟩::[])))) (.reg (⟨some 27,.bin .add (.t 12) (.c (.int .i64 1)),none⟩::⟨some 12,.mv (.t 27),none⟩::[])))))))) (.seq (.reg (⟨some 28,.mv (.t 3),none⟩::⟨some 29,.call (.c (.fn 68 [])) [(.t 28),(.c (.fn 69 []))],none⟩::[])) (.seq (.reg (⟨some 30,.fa 1 (.t 1),none⟩::⟨some 31,.ld 1 false (.t 30),none⟩::⟨some 32,.fa 0 (.t 1),none⟩::⟨some 33,.ld 1 false (.t 32),none⟩::⟨some 34,.mv (.t 3),none⟩::⟨some 35,.call (.c (.fn 49 [])) [(.t 31),(.t 33),(.t 34)],none⟩::⟨none,.st 5 (.t 2) (.t 35),none⟩::[])) .ret))))))
theorem cd_csr_Turn : Code1 Tryz.prog 34 36 ir_csr_Turn [.c 5 true 2]:=⟨Tryz.call34,_,_,Tryz.func34,rfl,by kernel_rfl,by kernel_rfl,by kernel_rfl,by kernel_rfl⟩
set_option maxHeartbeats 2000000 in
theorem fo_Turn {rows cols : Int} {L : List Tri} (hT : OkT rows cols L) : FO Tryz.prog 34 [MTr rows cols L] (MO (bM cols rows (turnT L))) (MB (bM cols rows (turnT L))):=by
  refine fo_of_cvc mixed cd_csr_Turn (by simp) ?_
  have hr:=hT.r
  have hc:=hT.c
  have hll:=hT.len
  have c1:=fs_Tsure hT
  have c2:=fo_Triples hT
  repeat' (conv=>whnf); first |(refine Or.inl ⟨by rfl,_,c1,?_⟩) |(refine Or.inr (Or.inl ⟨by rfl,_,_,c2,?_⟩)) |(refine And.intro (show _ <= _ from Nat.le_of_ble_eq_true rfl) ?_) | refine And.intro rfl ?_ | fail
  refine ⟨Nat,fun i=>i <= L.length,fun i=>[(1,.ptr 0 0 0 0),(2,.ptr 1 0 0 0),(3,.osl 2 3 0 L.length),(10,.osl 2 3 0 L.length),(11,.int .i64 (L.length : Int)),(12,.int .i64 (i : Int))],fun i=>[.vars [.int .i64 rows,.int .i64 cols,Z (stB rows L),Z (L.map fun x=>x.2.1),Z (L.map fun x=>x.2.2)],.vars [.int .i64 0,.int .i64 0,.nils,.nils,.nils],.arr 3 (eds (trnI L i))],fun _=>none,fun i=>L.length - i,
    ⟨0,Nat.zero_le _,⟨rfl,rfl,rfl,rfl,rfl,rfl,trivial⟩,⟨⟨rfl,rfl,rfl,rfl,rfl,trivial⟩,⟨rfl,rfl,rfl,rfl,rfl,trivial⟩,rfl,trivial⟩,rfl⟩,fun i hi=>?_⟩
  have hi' : i <= L.length:=hi
  have hel:=eds_len (trnI L i)
  have htl:=trnI_len L i
  by_cases hin : i < L.length
  . obtain ⟨x,hx⟩ : ∃ x,L[i]? = some x:=⟨_,List.getElem?_eq_getElem hin⟩
    have hxi : (trnI L i).getD i (0,0,0) = x:=by rw [List.getD_eq_getElem?_getD,trnI_at hx]; rfl
    have hset:=trnI_set hx
    have hq : ∀ j,j = i -> (eds (trnI L i))[j]? = some [.int .i64 x.1,.int .i64 x.2.1,.int .i64 x.2.2]:=fun j hj=>by
      subst hj
      simp only [eds,List.getElem?_map,trnI_at hx,Option.map_some]
    repeat' (conv=>whnf); first |(refine ⟨_,hq _ (by omega),?_⟩) |(refine And.intro (show _ <= _ from Nat.le_of_ble_eq_true rfl) ?_) |(refine Br.dec (fun h=>?_) (fun h=>?_)) <;> try (exfalso; omega) | refine And.intro rfl ?_ |(refine And.intro (by omega) ?_) |(refine ⟨_,Or.inl ⟨⟨by omega,by omega⟩,rfl⟩,?_⟩) | fail
    refine ⟨i + 1,(show i + 1 <= L.length by omega),(show L.length - (i + 1) < L.length - i by omega),⟨rfl,rfl,rfl,rfl,rfl,rfl,trivial⟩,⟨⟨rfl,rfl,rfl,rfl,rfl,trivial⟩,⟨rfl,rfl,rfl,rfl,rfl,trivial⟩,?_,Nat.le_of_ble_eq_true rfl,rfl,rfl⟩,rfl⟩
    rw [<- hset]
    show Blk.arr 3 ((eds (trnI L i)).set (0 + (i : Int).toNat) _) = _
    rw [Nat.zero_add,Int.toNat_natCast]
    exact congrArg (Blk.arr 3) (eds_set _ _ _ _ _)
  . obtain rfl : i = L.length:=by omega
    have e : trnI L L.length = trn L:=by simp [trnI]
    have c3:=hs_SortT (trnI L L.length) (by rw [trnI_len]; omega)
    have c4:=fo_cbuilt cols rows (turnT L) hc.1 (by omega) (by rw [turnT_len]; omega) (fun x hx=>⟨(hT.turn.inr x hx).1,(hT.turn.inr x hx).2.1⟩)
    have hkl : (eds (turnT L)).length = L.length:=by rw [eds_len,turnT_len]
    rw [trnI_len] at c3
    have e2 : sortT (trnI L L.length) = turnT L:=by rw [e]; rfl
    rw [e2] at c3
    repeat' (conv=>whnf); first |(refine Or.inr (Or.inr (Or.inr (Or.inl ⟨_,_,[],c3 _ 2 rfl,by simp,?_⟩)))) |(refine Or.inr (Or.inr (Or.inr (Or.inr (Or.inl (frz_own3 rfl rfl (by rfl) hkl.symm rfl ⟨_,_,c4,rfl,mb_loose _,?_⟩)))))) |(refine And.intro (show _ <= _ from Nat.le_of_ble_eq_true rfl) ?_) |(refine Br.dec (fun h=>?_) (fun h=>?_)) <;> try (exfalso; omega) | refine And.intro rfl ?_ | fail
    exact Or.inr (Or.inr (FoS.threeK 3 4 5 (by decide) (by decide) (by decide) (MatL.agg (.cons (.same _ rfl) (.cons (.same _ rfl) (.cons (.osl 0 3 1 0 _ rfl) (.cons (.osl 1 4 1 0 _ rfl) (.cons (.osl 2 5 1 0 _ rfl) .nil)))))) rfl rfl rfl rfl rfl rfl))
theorem fz_MO (m : Mat5) : frzK 4 (MB m) (MO m) fun y=>y = MV m:=by
  refine ⟨rfl,by rw [zs_len]; simp,rfl,by rw [zs_len]; simp,rfl,by rw [zs_len]; simp,?_⟩
  show SV.agg [.int .i64 m.1,.int .i64 m.2.1,.slc 1 (List.take m.2.2.1.length (List.drop 0 (zs m.2.2.1))),.slc 1 (List.take m.2.2.2.1.length (List.drop 0 (zs m.2.2.2.1))),.slc 1 (List.take m.2.2.2.2.length (List.drop 0 (zs m.2.2.2.2)))] = MV m
  rw [frz_zl rfl,frz_zl rfl,frz_zl rfl]; rfl
theorem fs_Turn {rows cols : Int} {L : List Tri} (hT : OkT rows cols L) : FS Tryz.prog 34 [MTr rows cols L] (MTr cols rows (turnT L)):=fs_of_fo (fo_Turn hT) (fz_MO _)
end
section
open Go.RowKit
attribute [local irreducible] FS FO IT HS
def jcS (s : List Int × List Int) (n : Nat) (x : Tri) : List Int × List Int :=
  if s.1.length ≠ 0 /\ s.1.getD (s.1.length - 1) 0 = x.1 then (s.1,s.2.set s.1.length ((n : Int) + 1))
  else (s.1 ++ [x.1],(s.2 ++ [0]).set (s.1.length + 1) ((n : Int) + 1))
def jcN (l : List Tri) : Nat -> List Int × List Int
  | 0=>([],[0])
  | k + 1=>jcS (jcN l k) k (l.getD k (0,0,0))
structure OkJ (l : List Tri) (s : List Int × List Int) : Prop where
  lc : s.2.length = s.1.length + 1
  cp : ∀ q,q < s.1.length -> s.2.getD q 0 = (cntB l (s.1.getD q 0).toNat : Int)
  cn : s.2.getD s.1.length 0 = (l.length : Int)
  up : s.1.Pairwise (· < ·)
  mem : ∀ a,a ∈ s.1 ↔ ∃ x ∈ l,x.1 = a
theorem cntB_snoc (l : List Tri) (x : Tri) (k : Nat) : cntB (l ++ [x]) k = cntB l k + if x.1 < (k : Int) then 1 else 0:=by
  unfold cntB
  rw [List.filter_append,List.length_append]
  congr 1
  by_cases h : x.1 < (k : Int) <;> simp [h]
theorem cntB_cong {l : List Tri} {i j : Nat} (h : ∀ y ∈ l,y.1 < (i : Int) ↔ y.1 < (j : Int)) : cntB l i = cntB l j:=by
  unfold cntB
  rw [List.filter_congr fun y hy=>decide_eq_decide.2 (h y hy)]
theorem cntB_all {l : List Tri} {i : Nat} (h : ∀ y ∈ l,y.1 < (i : Int)) : cntB l i = l.length:=by
  unfold cntB
  rw [List.filter_eq_self.2 fun y hy=>decide_eq_true (h y hy)]
theorem getD_in {l : List Int} {q : Nat} (h : q < l.length) : l.getD q 0 ∈ l:=by
  rw [List.getD_eq_getElem?_getD,List.getElem?_eq_getElem h]; exact List.getElem_mem _
theorem set_getD (l : List Int) (i q : Nat) (v : Int) : (l.set i v).getD q 0 = if i = q /\ q < l.length then v else l.getD q 0:=by
  rw [List.getD_eq_getElem?_getD,List.getElem?_set,List.getD_eq_getElem?_getD]
  by_cases h : i = q
  . subst h
    rw [if_pos rfl]
    by_cases h2 : i < l.length
    . rw [if_pos h2,if_pos ⟨rfl,h2⟩]; rfl
    . rw [if_neg h2,if_neg (fun h=>h2 h.2),List.getElem?_eq_none (by omega)]
  . rw [if_neg h,if_neg (fun h2=>h h2.1)]
theorem app_getD (l : List Int) (a : Int) (q : Nat) (hq : q < l.length) : (l ++ [a]).getD q 0 = l.getD q 0:=by
  rw [List.getD_eq_getElem?_getD,List.getElem?_append_left hq,List.getD_eq_getElem?_getD]
theorem app_last (l : List Int) (a : Int) : (l ++ [a]).getD l.length 0 = a:=by simp
theorem okJ_start : OkJ [] ([],[0]):=⟨rfl,fun q hq=>by simp at hq,rfl,.nil,fun a=>by simp⟩
theorem okJ_step {l : List Tri} {s : List Int × List Int} {x : Tri} (h : OkJ l s) (h0 : ∀ y ∈ l,0 <= y.1 /\ y.1 <= x.1) (hx : 0 <= x.1) : OkJ (l ++ [x]) (jcS s l.length x):=by
  obtain ⟨jc,cp⟩:=s
  obtain ⟨h1,h2,h3,h4,h5⟩:=h
  simp only at h1 h2 h3 h4 h5
  have hle : ∀ a ∈ jc,0 <= a /\ a <= x.1:=fun a ha=>by
    obtain ⟨y,hy,rfl⟩:=(h5 a).1 ha
    exact h0 y hy
  have hll : (l ++ [x]).length = l.length + 1:=by simp
  unfold jcS
  split
  . rename_i hc
    simp only at hc
    have hin : x.1 ∈ jc:=by rw [<- hc.2]; exact getD_in (by omega)
    refine ⟨by simp [h1],fun q hq=>?_,?_,h4,fun a=>?_⟩
    . simp only at hq ⊢
      have:=hle _ (getD_in hq)
      rw [set_getD,if_neg (by omega),h2 q hq,cntB_snoc,if_neg (by omega)]; simp
    . simp only
      rw [set_getD,if_pos ⟨rfl,by omega⟩,hll]; simp
    . simp only
      rw [h5]
      refine ⟨fun ⟨y,hy,e⟩=>⟨y,List.mem_append_left _ hy,e⟩,fun ⟨y,hy,e⟩=>?_⟩
      rcases List.mem_append.1 hy with hy | hy
      . exact ⟨y,hy,e⟩
      . rw [List.mem_singleton.1 hy] at e
        subst e
        exact (h5 _).1 hin
  . rename_i hc
    simp only at hc
    have hlt : ∀ a ∈ jc,a < x.1:=fun a ha=>by
      have hax:=hle a ha
      rcases List.eq_nil_or_concat jc with rfl | ⟨jc',z,rfl⟩
      . simp at ha
      . rw [List.concat_eq_append] at *
        have hz:=hle z (by simp)
        have hzx : z ≠ x.1:=fun e=>hc ⟨by simp,by simp [e]⟩
        rw [List.pairwise_append] at h4
        rcases List.mem_append.1 ha with ha | ha
        . have:=h4.2.2 a ha z (by simp); omega
        . rw [List.mem_singleton.1 ha]; omega
    refine ⟨by simp [h1],fun q hq=>?_,?_,?_,fun a=>?_⟩
    . simp only [List.length_append,List.length_singleton] at hq ⊢
      rw [set_getD,if_neg (by omega)]
      by_cases hqj : q < jc.length
      . have:=hlt _ (getD_in hqj)
        rw [app_getD cp _ _ (by omega),app_getD jc _ _ hqj,h2 q hqj,cntB_snoc,if_neg (by omega)]; simp
      . obtain rfl : q = jc.length:=by omega
        rw [app_getD cp _ _ (by omega),app_last,h3,cntB_snoc,if_neg (by omega),Nat.add_zero,cntB_all fun y hy=>by have:=hlt _ ((h5 y.1).2 ⟨y,hy,rfl⟩); omega]
    . simp only [List.length_append,List.length_singleton]
      rw [set_getD,if_pos ⟨rfl,by simp [h1]⟩]; simp
    . rw [List.pairwise_append]
      exact ⟨h4,by simp,fun a ha b hb=>by rw [List.mem_singleton.1 hb]; exact hlt a ha⟩
    . simp only [List.mem_append,List.mem_singleton]
      rw [h5]
      refine ⟨fun h=>?_,fun ⟨y,hy,e⟩=>?_⟩
      . rcases h with ⟨y,hy,e⟩ | rfl
        . exact ⟨y,.inl hy,e⟩
        . exact ⟨x,.inr rfl,rfl⟩
      . rcases hy with hy | rfl
        . exact .inl ⟨y,hy,e⟩
        . exact .inr e.symm
theorem okJ_take {l : List Tri} (hr : Rise l) (h0 : ∀ y ∈ l,0 <= y.1) : ∀ k,k <= l.length -> OkJ (l.take k) (jcN l k)
  | 0,_=>okJ_start
  | k + 1, hk => by
    have ih:=okJ_take hr h0 k (by omega)
    have hx : l[k]? = some (l.getD k (0,0,0)):=eds_some (by omega)
    rw [List.take_add_one,hx,jcN]
    have hl : (l.take k).length = k:=by rw [List.length_take]; omega
    have hxm:=List.mem_of_getElem? hx
    have:=okJ_step (x:=l.getD k (0,0,0)) ih (fun y hy=>?_) (h0 _ hxm)
    . rw [hl] at this; exact this
    . refine ⟨h0 y (List.mem_of_mem_take hy),?_⟩
      obtain ⟨i,hi,rfl⟩:=List.getElem_of_mem hy
      have hi' : i < k:=by omega
      have h2:=List.pairwise_iff_getElem.1 hr i k (by omega) (by omega) hi'
      rw [bel_iff] at h2
      have e : (l.take k)[i] = l[i]'(by omega):=by simp
      have e2 : l.getD k (0,0,0) = l[k]'(by omega):=by simp [show k < l.length by omega]
      rw [e,e2]; omega
theorem okJ_all {l : List Tri} (hr : Rise l) (h0 : ∀ y ∈ l,0 <= y.1) : OkJ l (jcN l l.length):=by
  have:=okJ_take hr h0 l.length (Nat.le_refl _)
  rwa [List.take_length] at this
/-! ### It is right -/
theorem up_lt {l : List Int} (h : l.Pairwise (· < ·)) {i j : Nat} (hij : i < j) (hj : j < l.length) : l.getD i 0 < l.getD j 0:=by
  have:=List.pairwise_iff_getElem.1 h i j (by omega) hj hij
  simpa [show i < l.length by omega,hj] using this
theorem at_of_mem {l : List Int} {a : Int} (h : a ∈ l) : ∃ q,q < l.length /\ l.getD q 0 = a:=by
  obtain ⟨q,hq,rfl⟩:=List.getElem_of_mem h
  exact ⟨q,hq,by simp [hq]⟩
theorem OkJ.next {l : List Tri} {s : List Int × List Int} (h : OkJ l s) (h0 : ∀ y ∈ l, 0 ≤ y.1) {q : Nat} (hq : q < s.1.length) : s.2.getD (q + 1) 0 = (cntB l ((s.1.getD q 0).toNat + 1) : Int) := by
  have hp : 0 <= s.1.getD q 0:=by
    obtain ⟨y,hy,e⟩:=(h.mem _).1 (getD_in hq)
    have:=h0 y hy
    omega
  have hat : ∀ y ∈ l,∃ p,p < s.1.length /\ s.1.getD p 0 = y.1:=fun y hy=>at_of_mem ((h.mem _).2 ⟨y,hy,rfl⟩)
  by_cases hn : q + 1 < s.1.length
  . have hq1:=up_lt h.up (show q < q + 1 by omega) hn
    rw [h.cp _ hn,cntB_cong fun y hy=>?_]
    obtain ⟨p,hp1,hp2⟩:=hat y hy
    rw [<- hp2]
    by_cases hpq : p <= q
    . have : s.1.getD p 0 <= s.1.getD q 0:=by
        by_cases e : p = q
        . rw [e]; exact Int.le_refl _
        . exact Int.le_of_lt (up_lt h.up (by omega) hq)
      constructor <;> omega
    . have : s.1.getD (q + 1) 0 <= s.1.getD p 0:=by
        by_cases e : p = q + 1
        . rw [e]; exact Int.le_refl _
        . exact Int.le_of_lt (up_lt h.up (by omega) hp1)
      constructor <;> omega
  . have e : q + 1 = s.1.length:=by omega
    rw [e,h.cn,cntB_all fun y hy=>?_]
    obtain ⟨p,hp1,hp2⟩:=hat y hy
    rw [<- hp2]
    have : s.1.getD p 0 <= s.1.getD q 0:=by
      by_cases e : p = q
      . rw [e]; exact Int.le_refl _
      . exact Int.le_of_lt (up_lt h.up (by omega) hq)
    omega
theorem up_low {l : List Int} (h : l.Pairwise (· < ·)) (h0 : ∀ a ∈ l,0 <= a) : ∀ q,q < l.length -> (q : Int) <= l.getD q 0
  | 0,hq=>h0 _ (getD_in hq)
  | q + 1, hq => by
    have:=up_low h h0 q (by omega)
    have:=up_lt h (show q < q + 1 by omega) hq
    omega
def colT (L : List Tri) (a : Int) : List (Int × Int):=(ptL L a.toNat).map fun x=>(x.2.1,x.2.2)
theorem pt_up {L : List Tri} (hr : Rise L) (h0 : ∀ y ∈ L,0 <= y.1) (i : Nat) : (ptL L i).Pairwise fun a b=>a.2.1 < b.2.1:=by
  rw [List.pairwise_iff_getElem]
  intro p q hp hq hpq
  have hl:=pt_length L i
  have hp' : p < cntB L (i + 1) - cntB L i:=by omega
  have hq' : q < cntB L (i + 1) - cntB L i:=by omega
  have ep : (ptL L i)[p]? = some (ptL L i)[p]:=List.getElem?_eq_getElem hp
  have eq : (ptL L i)[q]? = some (ptL L i)[q]:=List.getElem?_eq_getElem hq
  rw [pt_at hp'] at ep
  rw [pt_at hq'] at eq
  have r1:=pt_row hr (h0 _ (List.mem_of_getElem? ep)) hp' ep
  have r2:=pt_row hr (h0 _ (List.mem_of_getElem? eq)) hq' eq
  obtain ⟨i1,i2⟩:=List.getElem?_eq_some_iff.1 ep
  obtain ⟨j1,j2⟩:=List.getElem?_eq_some_iff.1 eq
  have:=List.pairwise_iff_getElem.1 hr _ _ i1 j1 (by omega)
  rw [i2,j2,bel_iff] at this
  omega
theorem pt_mem {L : List Tri} {i : Nat} {x : Tri} (h : x ∈ ptL L i) : x ∈ L:=List.mem_of_mem_take (List.mem_of_mem_drop h)
theorem seg_pt {f : Tri -> Int} (L : List Tri) (i : Nat) : ((L.map f).take (cntB L (i + 1))).drop (cntB L i) = (ptL L i).map f:=by
  unfold ptL
  rw [List.map_drop,List.map_take]
theorem ris_map {l : List Tri} {f : Tri -> Int} {n : Int} (h1 : l.Pairwise fun a b=>f a < f b) (h2 : ∀ x ∈ l,0 <= f x /\ f x < n) : RisN (l.map f) n:=by
  intro i hi
  rw [List.length_map] at hi
  have e : (l.map f).getD i 0 = f l[i]:=by simp [hi]
  refine ⟨?_,fun h0=>?_⟩
  . have:=h2 _ (List.getElem_mem hi)
    rw [e]; omega
  . have e' : (l.map f).getD (i - 1) 0 = f (l[i - 1]'(by omega)):=by simp [show i - 1 < l.length by omega]
    rw [e,e']
    exact List.pairwise_iff_getElem.1 h1 (i - 1) i (by omega) hi (by omega)
theorem okC_of {rows cols : Int} {S : List Tri} (hT : OkT cols rows S) : OkC rows cols (jcN S S.length).1 (jcN S S.length).2 (S.map fun x=>x.2.1) (S.map fun x=>x.2.2):=by
  have h0 : ∀ y ∈ S,0 <= y.1:=fun y hy=>(hT.inr y hy).1
  have hJ:=okJ_all hT.rise h0
  generalize jcN S S.length = s at *
  have hj0 : ∀ a ∈ s.1,0 <= a /\ a < cols:=fun a ha=>by
    obtain ⟨y,hy,rfl⟩:=(hJ.mem a).1 ha
    have:=hT.inr y hy
    omega
  have hlow:=up_low hJ.up fun a ha=>(hj0 a ha).1
  have hc:=hT.r
  have hlen : (s.1.length : Int) <= cols:=by
    by_cases h : s.1.length = 0
    . omega
    . have:=hlow (s.1.length - 1) (by omega)
      have:=hj0 _ (getD_in (l:=s.1) (q:=s.1.length - 1) (by omega))
      omega
  have hcs : ∀ q,q < s.1.length -> s.2.getD q 0 < s.2.getD (q + 1) 0:=fun q hq=>by
    rw [hJ.cp q hq,hJ.next h0 hq]
    obtain ⟨y,hy,e⟩:=(hJ.mem _).1 (getD_in hq)
    obtain ⟨k,hk,e2⟩:=List.getElem_of_mem hy
    have hy0:=h0 y hy
    have r1:=rise_cnt hT.rise ((s.1.getD q 0).toNat + 1) k y (by rw [List.getElem?_eq_getElem hk,e2])
    have r2:=rise_cnt hT.rise (s.1.getD q 0).toNat k y (by rw [List.getElem?_eq_getElem hk,e2])
    have a1:=r1.1 (by omega)
    have a2 : ¬ k < cntB S (s.1.getD q 0).toNat:=fun h=>by have:=r2.2 h; omega
    omega
  have hc0 : s.2.getD 0 0 = 0:=by
    by_cases h : s.1.length = 0
    . have:=hJ.cn
      rw [h] at this
      rw [this]
      rcases S with _ | ⟨y,S⟩
      . rfl
      . have hm:=(hJ.mem y.1).2 ⟨y,by simp,rfl⟩
        rw [List.length_eq_zero_iff.1 h] at hm
        simp at hm
    . rw [hJ.cp 0 (by omega),cntB_zero fun y hy=>?_]
      . rfl
      . obtain ⟨p,hp1,hp2⟩:=at_of_mem ((hJ.mem _).2 ⟨y,hy,rfl⟩)
        have hq0:=(hj0 _ (getD_in (l:=s.1) (q:=0) (by omega))).1
        rw [<- hp2]
        by_cases e : p = 0
        . rw [e]; omega
        . have:=up_lt hJ.up (show 0 < p by omega) hp1; omega
  have hmono : ∀ q,q <= s.1.length -> 0 <= s.2.getD q 0 /\ s.2.getD q 0 <= S.length:=fun q hq=>by
    by_cases h : q < s.1.length
    . have:=cntB_le S (s.1.getD q 0).toNat
      rw [hJ.cp q h]; omega
    . rw [show q = s.1.length by omega,hJ.cn]; omega
  refine ⟨hT.c,hT.r,hJ.lc,by simp,by simpa using hT.len,by omega,fun i hi=>?_,fun i hi=>?_,hc0,by rw [hJ.cn]; simp,fun k hk=>?_⟩
  . have:=hj0 _ (getD_in hi)
    exact ⟨by omega,fun h=>up_lt hJ.up (by omega) hi⟩
  . rw [hJ.lc] at hi
    have:=hmono i (by omega)
    refine ⟨by simp only [List.length_map]; omega,fun h=>?_⟩
    have:=hcs (i - 1) (by omega)
    rwa [show i - 1 + 1 = i by omega] at this
  . rw [hJ.cp k hk,hJ.next h0 hk,Int.toNat_natCast,Int.toNat_natCast,seg_pt]
    exact ris_map (pt_up hT.rise h0 _) fun x hx=>by have:=hT.inr x (pt_mem hx); omega
theorem col_of {rows cols : Int} {S : List Tri} (hT : OkT cols rows S) (a : Int) (ha : 0 <= a) : ColC (jcN S S.length).1 (jcN S S.length).2 (S.map fun x=>x.2.1) (S.map fun x=>x.2.2) a (colT S a) /\ wkC (jcN S S.length).1 (jcN S S.length).2 a ((colT S a).length : Int):=by
  have h0 : ∀ y ∈ S,0 <= y.1:=fun y hy=>(hT.inr y hy).1
  have hJ:=okJ_all hT.rise h0
  generalize jcN S S.length = s at *
  have hpl:=pt_length S a.toNat
  have hcm:=cntB_mono S (show a.toNat <= a.toNat + 1 by omega)
  have hcl:=cntB_le S (a.toNat + 1)
  by_cases hm : a ∈ s.1
  . obtain ⟨q,hq,e⟩:=at_of_mem hm
    have c1:=hJ.cp q hq
    have c2:=hJ.next h0 hq
    rw [e] at c1 c2
    refine ⟨.inl ⟨q,_,_,hq,e,c1,c2,?_⟩,.inl ⟨q,hq,e,?_⟩⟩
    . apply List.ext_getElem?
      intro j
      unfold colT segC
      rw [List.getElem?_map,List.getElem?_map]
      by_cases hj : j < cntB S (a.toNat + 1) - cntB S a.toNat
      . obtain ⟨x,hx⟩ : ∃ x,S[cntB S a.toNat + j]? = some x:=⟨_,List.getElem?_eq_getElem (by omega)⟩
        rw [List.getElem?_range hj,pt_at hj,hx]
        simp only [Option.map_some]
        rw [map_getD _ hx,map_getD _ hx]
      . rw [List.getElem?_eq_none (by omega),List.getElem?_eq_none (by simp; omega)]; rfl
    . rw [c1,c2]
      unfold colT
      rw [List.length_map,hpl]; omega
  . have e : cntB S (a.toNat + 1) = cntB S a.toNat:=cntB_cong fun y hy=>by
      have : y.1 ≠ a:=fun e=>hm ((hJ.mem a).2 ⟨y,hy,e⟩)
      constructor <;> omega
    have hnil : ptL S a.toNat = []:=List.eq_nil_of_length_eq_zero (by omega)
    have hno : ∀ k,k < s.1.length -> s.1.getD k 0 ≠ a:=fun k hk e=>hm (e ▸ getD_in hk)
    unfold colT
    rw [hnil]
    exact ⟨.inr ⟨hno,rfl⟩,.inr ⟨hno,rfl⟩⟩
theorem jcN_lens {S : List Tri} (hr : Rise S) (h0 : ∀ y ∈ S,0 <= y.1) (k : Nat) (hk : k <= S.length) : (jcN S k).2.length = (jcN S k).1.length + 1:=(okJ_take hr h0 k hk).lc
theorem jcN_le (S : List Tri) : ∀ k,(jcN S k).1.length <= k
  | 0=>Nat.le_refl _
  | k + 1 => by
    have:=jcN_le S k
    rw [jcN,jcS]
    split
    . simp only; omega
    . simp; omega
end
end Go.Proofs.YtelbhbadkbcakaaGreat
