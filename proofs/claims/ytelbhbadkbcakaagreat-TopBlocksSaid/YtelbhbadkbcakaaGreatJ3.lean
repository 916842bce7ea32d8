/- A heap has what was put on it (plain). Columns, merged. Columns, merged: the walk. A heap's first is the least (plain). What columns, merged, are (plain). -/
import Derived.Test.YtelbhbadkbcakaaGreatJ2
import Derived.Test.YtelbhbadkbcakaaGreatV1
namespace Go.Proofs.YtelbhbadkbcakaaGreat
section
open Go.RowKit
attribute [local irreducible] FS FO IT HS
theorem swp_perm {L : List Hd} {i j : Nat} (hi : i < L.length) (hj : j < L.length) : (swpL L i j).Perm L:=by
  have h : swpL L i j = (L.toArray.swap i j hi hj).toList:=by
    simp [swpL,Array.swap_def,hi,hj]
  rw [h]
  have:=Array.swap_perm (xs:=L.toArray) (i:=i) (j:=j) hi hj
  simpa [Array.perm_iff_toList_perm] using this
theorem up_perm : ∀ (f : Nat) (L : List Hd) (j : Nat),j < L.length -> (upH f L j).Perm L
  | 0,L,j,_=>List.Perm.refl _
  | f + 1, L, j, hj => by
    rw [upH]
    split
    . exact List.Perm.refl _
    . exact (up_perm f _ _ (by rw [swp_len]; omega)).trans (swp_perm (by omega) hj)
theorem dn_perm : ∀ (f : Nat) (L : List Hd) (n i : Nat),n <= L.length -> (dnH f L n i).Perm L
  | 0,L,_,_,_=>List.Perm.refl _
  | f + 1, L, n, i, hn => by
    rw [dnH]
    split
    . rename_i hc
      have hk:=kid_lt (L:=L) hc
      split
      . exact (dn_perm f _ n _ (by rw [swp_len]; exact hn)).trans (swp_perm (by omega) (by omega))
      . exact List.Perm.refl _
    . exact List.Perm.refl _
theorem pu_perm (L : List Hd) (x : Hd) : (puH L x).Perm (x::L) :=
  (up_perm _ _ _ (by simp)).trans (List.perm_append_singleton x L)
theorem swp_getD {L : List Hd} {i j k : Nat} (hi : i < L.length) (hj : j < L.length) : atH (swpL L i j) k = if k = j then atH L i else if k = i then atH L j else atH L k:=by
  unfold atH swpL
  rw [List.getD_eq_getElem?_getD,List.getElem?_set]
  by_cases h1 : j = k
  . subst h1; simp [hj]
  . rw [if_neg h1,if_neg (Ne.symm h1),List.getElem?_set]
    by_cases h2 : i = k
    . subst h2; simp [hi]
    . rw [if_neg h2,if_neg (Ne.symm h2)]; simp
theorem dn_far : ∀ (f : Nat) (L : List Hd) (n i k : Nat),n <= L.length -> n <= k -> i < n -> atH (dnH f L n i) k = atH L k
  | 0,_,_,_,_,_,_,_=>rfl
  | f + 1, L, n, i, k, hn, hk, hi => by
    rw [dnH]
    split
    . rename_i hc
      have hkd:=kid_lt (L:=L) hc
      split
      . rw [dn_far f _ n _ k (by rw [swp_len]; exact hn) hk hkd.1,swp_getD (by omega) (by omega),if_neg (by omega),if_neg (by omega)]
      . rfl
    . rfl
theorem dn_nil (f : Nat) (L : List Hd) (i : Nat) : dnH f L 0 i = L:=by
  cases f with
  | zero=>rfl
  | succ f=>rw [dnH,if_neg (by omega)]
theorem po_app {L : List Hd} (h0 : 0 < L.length) : dnH L.length (swpL L 0 (L.length - 1)) (L.length - 1) 0 = poH L ++ [atH L 0]:=by
  have hl : (dnH L.length (swpL L 0 (L.length - 1)) (L.length - 1) 0).length = (L.length - 1) + 1:=by rw [dn_len,swp_len]; omega
  have h1 : atH (dnH L.length (swpL L 0 (L.length - 1)) (L.length - 1) 0) (L.length - 1) = atH L 0:=by
    rcases Nat.eq_zero_or_pos (L.length - 1) with h | h
    . rw [h,dn_nil,swp_getD h0 h0]; simp
    . rw [dn_far _ _ _ _ _ (by rw [swp_len]; omega) (Nat.le_refl _) h,swp_getD h0 (by omega),if_pos rfl]
  rw [<- h1,poH]
  generalize dnH L.length (swpL L 0 (L.length - 1)) (L.length - 1) 0 = M at *
  have : M.drop (L.length - 1) = [atH M (L.length - 1)]:=by
    rw [List.drop_eq_getElem_cons (by omega),List.drop_eq_nil_of_le (by omega)]
    simp [atH,hl]
  rw [<- this,List.take_append_drop]
theorem po_perm {L : List Hd} (h0 : 0 < L.length) : L.Perm (atH L 0::poH L):=by
  have h1 : (poH L ++ [atH L 0]).Perm L:=by
    rw [<- po_app h0]
    exact (dn_perm _ _ _ _ (by rw [swp_len]; omega)).trans (swp_perm h0 (by omega))
  exact (h1.symm).trans (List.perm_append_singleton _ _)
def twH (L : List Hd) : Nat:=(L.map fun x=>x.1.length).sum
theorem tw_perm {L M : List Hd} (h : L.Perm M) : twH L = twH M:=(h.map _).sum_nat
theorem tw_pt (L : List Hd) (x : Hd) : twH (ptH L x) = x.1.length + twH L:=by
  unfold ptH
  split
  . rw [tw_perm (pu_perm L x)]; rfl
  . omega
theorem tw_nx {L : List Hd} (h0 : 0 < L.length) (hL : ∀ x ∈ L,0 < x.1.length) : twH (nxL L) + 1 = twH L:=by
  have h1:=tw_perm (po_perm h0)
  have h2 : 0 < (atH L 0).1.length:=hL _ (at_mem h0)
  rw [nxL,tw_pt,h1]
  show ((atH L 0).1.drop 1).length + twH (poH L) + 1 = (atH L 0).1.length + twH (poH L)
  rw [List.length_drop]; omega
theorem pt_len (L : List Hd) (x : Hd) : (ptH L x).length <= L.length + 1:=by
  unfold ptH
  split
  . rw [(pu_perm L x).length_eq]; simp
  . omega
theorem pt_all {p : Hd -> Prop} {L : List Hd} {x : Hd} (h : ∀ y ∈ L,p y) (hx : 0 < x.1.length -> p x) : ∀ y ∈ ptH L x,p y:=fun y hy=>by
  unfold ptH at hy
  split at hy
  . rename_i hp
    rcases List.mem_cons.1 ((pu_perm L x).mem_iff.1 hy) with rfl | hy
    . exact hx hp
    . exact h y hy
  . exact h y hy
theorem nx_len {L : List Hd} (h0 : 0 < L.length) : (nxL L).length <= L.length:=by
  have:=pt_len (poH L) ((L.getD 0 ([],0)).1.drop 1,(L.getD 0 ([],0)).2)
  rw [po_len] at this
  show (ptH _ _).length <= _
  omega
end
section
open Go.RowKit
attribute [local irreducible] FS FO IT HS
def cls (c : List (List (Int × Int))) : List (List SV):=c.map fun l=>[SM l]
def CL (c : List (List (Int × Int))) : SV:=.slc 1 (cls c)
theorem cl_len (c : List (List (Int × Int))) : (cls c).length = c.length:=by simp [cls]
theorem cl_go {c : List (List (Int × Int))} {x : List (Int × Int)} {q i : Nat} {K : List SV -> Prop} (hq : q = i) (hx : c.getD i [] = x) (h : K [SM x]) : ∀ y,(cls c)[q]? = some y -> K y:=fun y hy=>by
  subst hq hx
  simp only [cls,List.getElem?_map,Option.map_eq_some_iff] at hy
  obtain ⟨z,hz,rfl⟩:=hy
  simpa [hz] using h
def RisC (l : List (Int × Int)) : Prop:=∀ i,0 < i -> i < l.length -> (l.getD (i - 1) (0,0)).1 < (l.getD i (0,0)).1
def ir_push_rises : IR :=
(.seq (.reg (⟨some 2,.mv (.c (.bool false)),none⟩::[])) (.seq (.seq (.reg (⟨some 4,.mv (.t 0),none⟩::⟨some 5,.ln (.t 4),none⟩::⟨some 6,.mv (.c (.int .i64 0)),none⟩::[])) (.block 0 (.loop (.seq (.reg (⟨some 7,.bin .lss (.t 6) (.t 5),none⟩::[])) (.seq (.cond (.t 7) .skip (.exit 0)) (.seq (.block 1 (.seq (.reg (⟨some 8,.mv (.t 6),none⟩::⟨some 3,.mv (.t 8),none⟩::[])) (.seq (.draw (⟨some 9,.mv (.t 3),none⟩::⟨some 10,.bin .gtr (.t 9) (.c (.int .i64 0)),none⟩::⟨some 11,.mv (.t 10),none⟩::⟨some 12,.mv (.t 0),some (11,true)⟩::⟨some 13,.mv (.t 3),some (11,true)⟩::⟨some 14,.bin .sub (.t 13) (.c (.int .i64 1)),some (11,true)⟩::⟨some 15,.ia 3 (.t 12) (.t 14),some (11,true)⟩::⟨some 16,.fa 0 (.t 15),some (11,true)⟩::⟨some 17,.ld 1 false (.t 16),some (11,true)⟩::⟨some 18,.mv (.t 0),some (11,true)⟩::⟨some 19,.mv (.t 3),some (11,true)⟩::⟨some 20,.ia 3 (.t 18) (.t 19),some (11,true)⟩::⟨some 21,.fa 0 (.t 20),some (11,true)⟩::⟨some 22,.ld 1 false (.t 21),some (11,true)⟩::[]) (⟨some 23,.bin .geq (.t 17) (.t 22),some (11,true)⟩::⟨some 24,.pick (.t 11) (.t 23) (.c (.bool false)),none⟩::[])) (.cond (.t 24) (.seq (.reg (⟨some 2,.mv (.c (.bool false)),none⟩::[])) .ret) .skip)))) (.reg (⟨some 25,.bin .add (.t 6) (.c (.int .i64 1)),none⟩::⟨some 6,.mv (.t 25),none⟩::[])))))))) (.seq (.reg (⟨some 2,.mv (.c (.bool true)),none⟩::[])) .ret)))
theorem cd_push_rises : Code1 Tryz.prog 58 26 ir_push_rises [.t 2]:=⟨Tryz.call58,_,_,Tryz.func58,rfl,by kernel_rfl,by kernel_rfl,by kernel_rfl,by kernel_rfl⟩
theorem fs_rises (l : List (Int × Int)) (h : RisC l) (hl : l.length <= 1000000000) : FS Tryz.prog 58 [SM l] (.bool true):=by
  refine fs_of_cvc mixed cd_push_rises (by simp) ?_
  have hzl:=sms_len l
  refine ⟨Nat,fun k=>k <= l.length,fun k=>[(0,SM l),(5,.int .i64 (l.length : Int)),(6,.int .i64 (k : Int))],fun k=>[],fun _=>none,fun k=>l.length - k,⟨0,by omega,⟨rfl,?_,rfl,trivial⟩,trivial,rfl⟩,fun k hk=>?_⟩
  . show SV.int .i64 _ = SV.int .i64 _
    rw [sms_len]
  by_cases hkl : k < l.length
  . have hk' : k <= l.length:=hk
    obtain ⟨y,hy⟩ : ∃ y,l.getD k (0,0) = y:=⟨_,rfl⟩
    obtain ⟨z,hz⟩ : ∃ z,l.getD (k - 1) (0,0) = z:=⟨_,rfl⟩
    have hr : 0 < k -> z.1 < y.1:=fun h0=>by rw [<- hz,<- hy]; exact h k h0 hkl
    repeat' (conv=>whnf); first |(refine sms_go (i:=k) (by omega) hy ?_) |(refine sms_go (i:=k - 1) (by omega) hz ?_) | refine Br.tt ?_ | refine Br.ff ?_ |(refine Br.dec (fun h=>?_) (fun h=>?_)) <;> try (exfalso; omega) | refine And.intro rfl ?_ |(refine And.intro (by omega) ?_) |(refine ⟨_,Or.inl ⟨⟨by omega,by omega⟩,rfl⟩,?_⟩) | fail
    all_goals exact ⟨k + 1,(show k + 1 <= l.length by omega),(show l.length - (k + 1) < l.length - k by omega),⟨rfl,rfl,rfl,trivial⟩,trivial,rfl⟩
  . have hk' : k <= l.length:=hk
    repeat' (conv=>whnf); first |(refine Br.dec (fun h=>?_) (fun h=>?_)) <;> try (exfalso; omega) | refine And.intro rfl ?_ | fail
    exact rfl
def ir_push_Merge_1 : IR :=
(.seq (.reg (⟨some 2,.mv (.c (.bool false)),none⟩::[])) (.seq (.reg (⟨some 3,.mv (.t 0),none⟩::⟨some 4,.call (.c (.fn 58 [])) [(.t 3)],none⟩::⟨some 5,.un .not (.t 4),none⟩::⟨some 2,.mv (.t 5),none⟩::[])) .ret))
theorem cd_push_Merge_1 : Code1 Tryz.prog 57 6 ir_push_Merge_1 [.t 2]:=⟨Tryz.call57,_,_,Tryz.func57,rfl,by kernel_rfl,by kernel_rfl,by kernel_rfl,by kernel_rfl⟩
theorem fs_Merge1 (l : List (Int × Int)) (h : RisC l) (hl : l.length <= 1000000000) : FS Tryz.prog 57 [SM l] (.bool false):=by
  refine fs_of_cvc mixed cd_push_Merge_1 (by simp) ?_
  have c:=fs_rises l h hl
  repeat' (conv=>whnf); first |(refine Or.inl ⟨by rfl,_,c,?_⟩) | fail
  exact rfl
def ir_slices_IndexFunc_of2_api_Sum_api_Sum : IR :=
(.seq (.reg (⟨some 4,.mv (.c (.int .i64 0)),none⟩::[])) (.seq (.seq (.reg (⟨some 6,.mv (.t 0),none⟩::⟨some 7,.ln (.t 6),none⟩::⟨some 8,.mv (.c (.int .i64 0)),none⟩::[])) (.block 0 (.loop (.seq (.reg (⟨some 9,.bin .lss (.t 8) (.t 7),none⟩::[])) (.seq (.cond (.t 9) .skip (.exit 0)) (.seq (.block 1 (.seq (.reg (⟨some 10,.mv (.t 8),none⟩::⟨some 5,.mv (.t 10),none⟩::[])) (.seq (.reg (⟨some 11,.mv (.t 1),none⟩::⟨some 12,.mv (.t 0),none⟩::⟨some 13,.mv (.t 5),none⟩::⟨some 14,.ia 1 (.t 12) (.t 13),none⟩::⟨some 15,.ld 1 false (.t 14),none⟩::⟨some 16,.call (.t 11) [(.t 15)],none⟩::[])) (.cond (.t 16) (.seq (.reg (⟨some 17,.mv (.t 5),none⟩::⟨some 4,.mv (.t 17),none⟩::[])) .ret) .skip)))) (.reg (⟨some 18,.bin .add (.t 8) (.c (.int .i64 1)),none⟩::⟨some 8,.mv (.t 18),none⟩::[])))))))) (.seq (.reg (⟨some 4,.mv (.c (.int .i64 (-1))),none⟩::[])) .ret)))
theorem cd_slices_IndexFunc_of2_api_Sum_api_Sum : Code1 Tryz.prog 85 19 ir_slices_IndexFunc_of2_api_Sum_api_Sum [.t 4]:=⟨Tryz.call85,_,_,Tryz.func85,rfl,by kernel_rfl,by kernel_rfl,by kernel_rfl,by kernel_rfl⟩
theorem fs_IndexC (c : List (List (Int × Int))) (hc : c.length <= 1000000000) (h : ∀ l ∈ c,RisC l /\ l.length <= 1000000000) : FS Tryz.prog 85 [CL c,.fn 57 []] (.int .i64 (-1)):=by
  refine fs_of_cvc mixed cd_slices_IndexFunc_of2_api_Sum_api_Sum (by simp) ?_
  have hzl:=cl_len c
  refine ⟨Nat,fun k=>k <= c.length,fun k=>[(0,CL c),(1,.fn 57 []),(7,.int .i64 (c.length : Int)),(8,.int .i64 (k : Int))],fun k=>[],fun _=>none,fun k=>c.length - k,⟨0,by omega,⟨rfl,rfl,?_,rfl,trivial⟩,trivial,rfl⟩,fun k hk=>?_⟩
  . show SV.int .i64 _ = SV.int .i64 _
    rw [cl_len]
  have hk' : k <= c.length:=hk
  by_cases hkl : k < c.length
  . obtain ⟨y,hy⟩ : ∃ y,c.getD k [] = y:=⟨_,rfl⟩
    have hm:=h y (by rw [<- hy]; simp [hkl])
    have c1:=fs_Merge1 y hm.1 hm.2
    repeat' (conv=>whnf); first |(refine cl_go (i:=k) (by omega) hy ?_) |(refine Or.inl ⟨by rfl,_,c1,?_⟩) | refine Br.ff ?_ |(refine Br.dec (fun h=>?_) (fun h=>?_)) <;> try (exfalso; omega) | refine And.intro rfl ?_ |(refine And.intro (by omega) ?_) |(refine ⟨_,Or.inl ⟨⟨by omega,by omega⟩,rfl⟩,?_⟩) | fail
    all_goals exact ⟨k + 1,(show k + 1 <= c.length by omega),(show c.length - (k + 1) < c.length - k by omega),⟨rfl,rfl,rfl,rfl,trivial⟩,trivial,rfl⟩
  . repeat' (conv=>whnf); first |(refine Br.dec (fun h=>?_) (fun h=>?_)) <;> try (exfalso; omega) | refine And.intro rfl ?_ | fail
    exact rfl
def ir_slices_ContainsFunc_of2_api_Sum_api_Sum : IR :=
(.seq (.reg (⟨some 4,.mv (.c (.bool false)),none⟩::[])) (.seq (.reg (⟨some 5,.mv (.t 0),none⟩::⟨some 6,.mv (.t 1),none⟩::⟨some 7,.call (.c (.fn 85 [])) [(.t 5),(.t 6)],none⟩::⟨some 8,.bin .geq (.t 7) (.c (.int .i64 0)),none⟩::⟨some 4,.mv (.t 8),none⟩::[])) .ret))
theorem cd_slices_ContainsFunc_of2_api_Sum_api_Sum : Code1 Tryz.prog 56 9 ir_slices_ContainsFunc_of2_api_Sum_api_Sum [.t 4]:=⟨Tryz.call56,_,_,Tryz.func56,rfl,by kernel_rfl,by kernel_rfl,by kernel_rfl,by kernel_rfl⟩
theorem fs_ContainsC (c : List (List (Int × Int))) (hc : c.length <= 1000000000) (h : ∀ l ∈ c,RisC l /\ l.length <= 1000000000) : FS Tryz.prog 56 [CL c,.fn 57 []] (.bool false):=by
  refine fs_of_cvc mixed cd_slices_ContainsFunc_of2_api_Sum_api_Sum (by simp) ?_
  have c1:=fs_IndexC c hc h
  have hp : SV.pure.pureL [CL c,.fn 57 []] = true:=by simp [SV.pure.pureL,SV.pure,CL]
  repeat' (conv=>whnf); first |(refine Or.inl ⟨hp,_,c1,?_⟩) | refine And.intro rfl ?_ | fail
  exact rfl
def inL (c : List (List (Int × Int))) : Nat -> List Hd
  | 0=>[]
  | k + 1=>ptH (inL c k) (c.getD k [],(k : Int))
def drH (r : Int) : Nat -> List Hd -> List (Int × Int) -> List (Int × Int)
  | 0,_,O=>O
  | f + 1,L,O=>if 0 < L.length then drH r f (nxL L) (accO r O ((L.getD 0 ([],0)).1.getD 0 (0,0))) else O
def mrg (r : Int) (c : List (List (Int × Int))) : List (Int × Int):=drH r (twH (inL c c.length) + 1) (inL c c.length) []
theorem in_all {p : Hd -> Prop} {c : List (List (Int × Int))} : ∀ (k : Nat),k <= c.length -> (∀ j,j < k -> 0 < (c.getD j []).length -> p (c.getD j [],(j : Int))) -> ∀ x ∈ inL c k,p x
  | 0,_,_=>fun x hx=>by simp [inL] at hx
  | k + 1,hk,h=>pt_all (in_all k (by omega) fun j hj=>h j (by omega)) (h k (by omega))
theorem in_len (c : List (List (Int × Int))) : ∀ k,(inL c k).length <= k
  | 0=>Nat.le_refl _
  | k + 1 => by
    have:=in_len c k
    have:=pt_len (inL c k) (c.getD k [],(k : Int))
    rw [inL]; omega
theorem acc_len (r : Int) (O : List (Int × Int)) (s : Int × Int) : (accO r O s).length <= O.length + 1:=by
  unfold accO; split <;> simp
theorem acc_w {r : Int} {O : List (Int × Int)} {s : Int × Int} (hO : ∀ y ∈ O,W128 y.2) (hs : W128 s.2) : ∀ y ∈ accO r O s,W128 y.2:=fun y hy=>by
  unfold accO at hy
  split at hy
  . rename_i hc
    rcases List.mem_or_eq_of_mem_set hy with hy | rfl
    . exact hO y hy
    . exact rAdd_w (hO _ (by rw [List.getD_eq_getElem?_getD,List.getElem?_eq_getElem (by omega)]; exact List.getElem_mem _)) hs
  . rcases List.mem_append.1 hy with hy | hy
    . exact hO y hy
    . rw [List.mem_singleton.1 hy]; exact hs
end
section
open Go.RowKit
attribute [local irreducible] FS FO IT HS
theorem drH_all {p : Hd -> Prop} (hp : ∀ (x : Hd),p x -> 0 < (x.1.drop 1).length -> p (x.1.drop 1,x.2)) {L : List Hd} (h0 : 0 < L.length) (h : ∀ x ∈ L,p x) : ∀ x ∈ nxL L,p x :=
  pt_all (po_all h0 h) fun hx=>hp _ (h _ (at_mem h0)) hx
def ir_push_Merge : IR :=
(.seq (.reg (⟨some 4,.mv (.c (.nils)),none⟩::⟨some 5,.mv (.c (.int .i64 0)),none⟩::[])) (.seq (.seq (.reg (⟨some 9,.mv (.t 0),none⟩::⟨some 10,.call (.c (.fn 22 [])) [(.t 9)],none⟩::⟨some 11,.un .not (.t 10),none⟩::[])) (.cond (.t 11) (.seq (.reg (⟨some 4,.mv (.c (.nils)),none⟩::⟨some 5,.mv (.c (.int .i64 8)),none⟩::[])) .ret) .skip)) (.seq (.seq (.reg (⟨some 12,.mv (.t 1),none⟩::⟨some 13,.call (.c (.fn 56 [])) [(.t 12),(.c (.fn 57 []))],none⟩::[])) (.cond (.t 13) (.seq (.reg (⟨some 4,.mv (.c (.nils)),none⟩::⟨some 5,.mv (.c (.int .i64 6)),none⟩::[])) .ret) .skip)) (.seq (.reg (⟨some 14,.mv (.t 0),none⟩::⟨some 15,.bld [.nils,.int .i64 0,.nils] [(1,1,(.t 14))],none⟩::⟨some 16,.bx (.t 15),none⟩::⟨some 6,.mv (.t 16),none⟩::[])) (.seq (.seq (.reg (⟨some 17,.mv (.t 1),none⟩::⟨some 18,.ln (.t 17),none⟩::⟨some 19,.mv (.c (.int .i64 0)),none⟩::[])) (.block 0 (.loop (.seq (.reg (⟨some 20,.bin .lss (.t 19) (.t 18),none⟩::[])) (.seq (.cond (.t 20) .skip (.exit 0)) (.seq (.block 1 (.seq (.reg (⟨some 21,.mv (.t 19),none⟩::⟨some 22,.ia 1 (.t 17) (.t 19),none⟩::⟨some 23,.ld 1 false (.t 22),none⟩::⟨some 7,.mv (.t 21),none⟩::⟨some 8,.mv (.t 23),none⟩::[])) (.reg (⟨some 24,.mv (.t 6),none⟩::⟨some 25,.mv (.t 8),none⟩::⟨some 26,.mv (.t 7),none⟩::⟨some 27,.call (.c (.fn 59 [])) [(.t 24),(.t 25),(.t 26)],none⟩::[])))) (.reg (⟨some 28,.bin .add (.t 19) (.c (.int .i64 1)),none⟩::⟨some 19,.mv (.t 28),none⟩::[])))))))) (.seq (.block 2 (.loop (.seq (.seq (.reg (⟨some 29,.mv (.t 6),none⟩::⟨some 30,.ck (.t 29),none⟩::⟨some 31,.fa 0 (.t 30),none⟩::⟨some 32,.ld 1 false (.t 31),none⟩::⟨some 33,.call (.c (.fn 60 [])) [(.t 32)],none⟩::⟨some 34,.bin .gtr (.t 33) (.c (.int .i64 0)),none⟩::[])) (.cond (.t 34) .skip (.exit 2))) (.block 3 (.reg (⟨some 35,.mv (.t 6),none⟩::⟨some 36,.call (.c (.fn 61 [])) [(.t 35)],none⟩::[])))))) (.seq (.reg (⟨some 37,.mv (.t 6),none⟩::⟨some 38,.ck (.t 37),none⟩::⟨some 39,.fa 2 (.t 38),none⟩::⟨some 40,.ld 1 false (.t 39),none⟩::⟨some 4,.mv (.t 40),none⟩::⟨some 5,.mv (.c (.int .i64 0)),none⟩::[])) .ret)))))))
theorem cd_push_Merge : Code1 Tryz.prog 25 41 ir_push_Merge [.t 4,.t 5]:=⟨Tryz.call25,_,_,Tryz.func25,rfl,by kernel_rfl,by kernel_rfl,by kernel_rfl,by kernel_rfl⟩
set_option maxHeartbeats 2000000 in
theorem fo_Merge (r : Int) (hr : isR r = true) (c : List (List (Int × Int))) (hc : c.length <= 1000000) (h : ∀ l ∈ c,RisC l /\ l.length <= 1000000000) (hw : ∀ l ∈ c,∀ y ∈ l,W128 y.2) (htw : twH (inL c c.length) <= 100000000) : FO Tryz.prog 25 [.int .i64 r,CL c] (.tup [.osl 0 3 0 (mrg r c).length,.int .i64 0]) [.arr 3 (sms (mrg r c))]:=by
  refine fo_of_cvc mixed cd_push_Merge (by simp) ?_
  have c1:=fs_Is r
  rw [hr] at c1
  have c2:=fs_ContainsC c (by omega) h
  have hcp : SV.pure.pureL [CL c,.fn 57 []] = true:=by simp [SV.pure.pureL,SV.pure,CL]
  have hzl:=cl_len c
  repeat' (conv=>whnf); first |(refine Or.inl ⟨by rfl,_,c1,?_⟩) |(refine Or.inl ⟨hcp,_,c2,?_⟩) | refine Br.ff ?_ | refine And.intro rfl ?_ |(refine And.intro (by simp only [lens_all]; first | done | omega) ?_) | fail
  refine ⟨Nat,fun k=>k <= c.length,fun k=>[(0,.int .i64 r),(6,.ptr 0 0 0 0),(17,CL c),(18,.int .i64 (c.length : Int)),(19,.int .i64 (k : Int))],fun k=>HM r (inL c k) [],fun _=>none,fun k=>c.length - k,⟨0,by omega,⟨rfl,?_,rfl,?_,rfl,trivial⟩,?_,rfl⟩,fun k hk=>?_⟩
  . rfl
  . show SV.int .i64 _ = SV.int .i64 _
    rw [cl_len]
  . exact ⟨⟨⟨Nat.le_refl _,rfl,rfl⟩,rfl,⟨Nat.le_succ _,rfl,rfl⟩,trivial⟩,rfl,rfl,trivial⟩
  have hk' : k <= c.length:=hk
  have hin : ∀ k,k <= c.length -> ∀ x ∈ inL c k,0 < x.1.length:=fun k hk=>in_all k hk fun j hj h=>h
  by_cases hkl : k < c.length
  . obtain ⟨y,hy⟩ : ∃ y,c.getD k [] = y:=⟨_,rfl⟩
    have hlk:=in_len c k
    have c3 : HS Tryz.prog 59 [.ptr 0 0 0 0,SM y,.int .i64 (k : Int)] (HM r (inL c k) []) (.tup []) (HM r (inL c (k + 1)) []) [1]:=by
      rw [inL,hy]
      exact hs_args (hs_put r (inL c k) y k [] (hin k hk') (by omega)) fun w A β vs h=>reps_ptr h
    repeat' (conv=>whnf); first |(refine cl_go (i:=k) (by omega) hy ?_) |(refine Or.inr (Or.inr (Or.inr (Or.inl ⟨_,_,[1],c3,by simp,?_⟩)))) |(refine Br.dec (fun h=>?_) (fun h=>?_)) <;> try (exfalso; omega) | refine And.intro rfl ?_ |(refine And.intro (by omega) ?_) |(refine ⟨_,Or.inl ⟨⟨by omega,by omega⟩,rfl⟩,?_⟩) | fail
    exact ⟨k + 1,(show k + 1 <= c.length by omega),(show c.length - (k + 1) < c.length - k by omega),⟨rfl,rfl,rfl,rfl,rfl,trivial⟩,⟨⟨rfl,rfl,rfl,trivial⟩,rfl,rfl,trivial⟩,rfl⟩
  obtain rfl : k = c.length:=by omega
  repeat' (conv=>whnf); first |(refine Br.dec (fun h=>?_) (fun h=>?_)) <;> try (exfalso; omega) | refine And.intro rfl ?_ | fail
  refine ⟨List Hd × List (Int × Int),fun s=>(∀ x ∈ s.1,0 < x.1.length) /\ (∀ x ∈ s.1,∀ y ∈ x.1,W128 y.2) /\ (∀ y ∈ s.2,W128 y.2) /\ s.1.length <= c.length /\ twH s.1 + s.2.length <= 100000000 /\ drH r (twH s.1 + 1) s.1 s.2 = mrg r c,fun s=>[(6,.ptr 0 0 0 0)],fun s=>HM r s.1 s.2,fun _=>none,fun s=>twH s.1,⟨(inL c c.length,[]),⟨hin _ (Nat.le_refl _),in_all _ (Nat.le_refl _) fun j hj _ y hy=>hw _ (by rw [List.getD_eq_getElem?_getD,List.getElem?_eq_getElem hj]; exact List.getElem_mem _) y hy,fun y hy=>by simp at hy,in_len c _,htw,rfl⟩,⟨rfl,trivial⟩,⟨⟨rfl,rfl,rfl,trivial⟩,rfl,rfl,trivial⟩,rfl⟩,fun s hs=>?_⟩
  obtain ⟨h1,h2,h3,h4,h5,h6⟩:=hs
  have c4:=hs_Len r s.1 s.2
  by_cases h0 : 0 < s.1.length
  . have c5:=hs_args (hs_mnext r s.1 s.2 h1 h0 h2 h3 (by omega) (by omega)) (args':=[.ptr 0 0 0 0]) fun w A β vs h=>reps_ptr h
    have htn:=tw_nx h0 h1
    have ha:=acc_len r s.2 ((s.1.getD 0 ([],0)).1.getD 0 (0,0))
    have hm0 : 0 < (atH s.1 0).1.length:=h1 _ (at_mem h0)
    repeat' (conv=>whnf); first |(refine Or.inr (Or.inr (Or.inr (Or.inl ⟨_,_,[],c4,by simp,?_⟩)))) |(refine Or.inr (Or.inr (Or.inr (Or.inl ⟨_,_,[1,2],c5,by simp,?_⟩)))) |(refine Br.dec (fun h=>?_) (fun h=>?_)) <;> try (exfalso; omega) | refine And.intro rfl ?_ | fail
    refine ⟨(nxL s.1,accO r s.2 ((s.1.getD 0 ([],0)).1.getD 0 (0,0))),⟨drH_all (p:=fun x=>0 < x.1.length) (fun x _ h=>h) h0 h1,drH_all (p:=fun x=>∀ y ∈ x.1,W128 y.2) (fun x hx _ y hy=>hx y (List.mem_of_mem_drop hy)) h0 h2,acc_w h3 (h2 _ (at_mem h0) _ (by
      show (atH s.1 0).1.getD 0 (0,0) ∈ _
      rw [List.getD_eq_getElem?_getD,List.getElem?_eq_getElem hm0]; exact List.getElem_mem _)),(show (nxL s.1).length <= c.length from Nat.le_trans (nx_len h0) h4),(show twH (nxL s.1) + (accO r s.2 _).length <= 100000000 by omega),?_⟩,(show twH (nxL s.1) < twH s.1 by omega),⟨rfl,trivial⟩,⟨⟨rfl,rfl,rfl,trivial⟩,rfl,rfl,trivial⟩,rfl⟩
    show drH r (twH (nxL s.1) + 1) (nxL s.1) _ = _
    rw [htn,<- h6]
    conv=>rhs; rw [drH,if_pos h0]
  . repeat' (conv=>whnf); first |(refine Or.inr (Or.inr (Or.inr (Or.inl ⟨_,_,[],c4,by simp,?_⟩)))) |(refine Br.dec (fun h=>?_) (fun h=>?_)) <;> try (exfalso; omega) | refine And.intro rfl ?_ | fail
    rw [drH,if_neg h0] at h6
    rw [<- h6]
    exact Or.inr (Or.inr (FoS.one 2 (MatL.tup (.cons (.osl 0 2 3 0 _ rfl) (.cons (.same _ rfl) .nil))) rfl rfl))
end
section
open Go.RowKit
attribute [local irreducible] FS FO IT HS
def kA (x : Hd) : Int:=(x.1.getD 0 (0,0)).1
def leK (x y : Hd) : Prop:=kA x < kA y \/ (kA x = kA y /\ x.2 <= y.2)
theorem leK_of {x y : Hd} (h : ltH y x = false) : leK x y:=by
  have h' : ¬ or2 (cmpI (kA y) (kA x)) (cmpI y.2 x.2) < 0:=of_decide_eq_false h
  unfold or2 cmpI at h'
  unfold leK
  repeat' split at h'
  all_goals first | omega | (by_cases h1 : kA x < kA y <;> omega)
theorem leK_lt {x y : Hd} (h : ltH x y = true) : leK x y:=by
  have h' : or2 (cmpI (kA x) (kA y)) (cmpI x.2 y.2) < 0:=of_decide_eq_true h
  unfold or2 cmpI at h'
  unfold leK
  repeat' split at h'
  all_goals omega
theorem leK_tr {x y z : Hd} (h : leK x y) (k : leK y z) : leK x z:=by unfold leK at *; omega
def Hp (L : List Hd) (n : Nat) : Prop:=∀ i,0 < i -> i < n -> leK (atH L ((i - 1) / 2)) (atH L i)
theorem hp_root {L : List Hd} {n : Nat} (h : Hp L n) : ∀ i,i < n -> leK (atH L 0) (atH L i):=by
  intro i
  induction i using Nat.strongRecOn with
  | ind i ih =>
    intro hi
    rcases Nat.eq_zero_or_pos i with rfl | hp
    . exact .inr ⟨rfl,Int.le_refl _⟩
    . exact leK_tr (ih ((i - 1) / 2) (by omega) (by omega)) (h i hp hi)
theorem up_hp : ∀ (f : Nat) (L : List Hd) (j : Nat),j < L.length -> j < f -> (∀ i,0 < i -> i < L.length -> i ≠ j -> leK (atH L ((i - 1) / 2)) (atH L i)) -> (∀ i,0 < i -> i < L.length -> (i - 1) / 2 = j -> 0 < j -> leK (atH L ((j - 1) / 2)) (atH L i)) -> Hp (upH f L j) L.length
  | 0,_,_,_,h,_,_=>by omega
  | f + 1, L, j, hj, hf, h1, h2 => by
    rw [upH]
    split
    . rename_i hc
      intro i h0 hi
      by_cases hij : i = j
      . subst hij
        rcases hc with hc | hc
        . omega
        . exact leK_of hc
      . exact h1 i h0 hi hij
    . rename_i hc
      have hne : ¬ (j - 1) / 2 = j:=fun h=>hc (.inl h)
      have hlt : ltH (atH L j) (atH L ((j - 1) / 2)) = true:=by
        cases hh : ltH (atH L j) (atH L ((j - 1) / 2)) with
        | true=>rfl
        | false=>exact absurd (Or.inr hh) hc
      have hle:=leK_lt hlt
      obtain ⟨p,hp⟩ : ∃ p,(j - 1) / 2 = p:=⟨_,rfl⟩
      rw [hp] at hne hle h2 ⊢
      have hpj : p < j:=by omega
      have g:=fun k=>swp_getD (L:=L) (i:=p) (j:=j) (k:=k) (by omega) hj
      have:=up_hp f (swpL L p j) p (by rw [swp_len]; omega) (by omega) (fun i h0 hi hip=>by
        rw [swp_len] at hi
        rw [g,g]
        by_cases hij : i = j
        . subst hij
          rw [if_pos rfl,if_neg (by omega),if_pos hp]; exact hle
        . rw [if_neg hij,if_neg hip]
          by_cases h3 : (i - 1) / 2 = j
          . rw [if_pos h3]; exact h2 i h0 hi h3 (by omega)
          . rw [if_neg h3]
            by_cases h4 : (i - 1) / 2 = p
            . rw [if_pos h4]
              have:=h1 i h0 hi hij
              rw [h4] at this
              exact leK_tr hle this
            . rw [if_neg h4]; exact h1 i h0 hi hij) (fun i h0 hi hip hp0=>by
        rw [swp_len] at hi
        rw [g,g,if_neg (by omega),if_neg (by omega)]
        have hg:=h1 p hp0 (by omega) (by omega)
        by_cases hij : i = j
        . subst hij; rw [if_pos rfl]; exact hg
        . rw [if_neg hij,if_neg (by omega)]
          have:=h1 i h0 hi hij
          rw [hip] at this
          exact leK_tr hg this)
      rwa [swp_len] at this
theorem pu_hp {L : List Hd} (x : Hd) (h : Hp L L.length) : Hp (puH L x) (puH L x).length:=by
  have hl : (puH L x).length = (L ++ [x]).length:=by rw [(pu_perm L x).length_eq]; simp
  rw [hl]
  have hat : ∀ k,k < L.length -> atH (L ++ [x]) k = atH L k:=fun k hk=>by
    unfold atH
    rw [List.getD_eq_getElem?_getD,List.getD_eq_getElem?_getD,List.getElem?_append_left hk]
  refine up_hp _ _ _ (by simp) (by omega) (fun i h0 hi hij=>?_) (fun i h0 hi hij hj=>?_)
  . have hil : i < L.length:=by simp at hi; omega
    rw [hat _ hil,hat _ (by omega)]
    exact h i h0 hil
  . simp at hi; omega
theorem dn_hp : ∀ (f : Nat) (L : List Hd) (n i : Nat),n <= L.length -> n < i + f -> (∀ k,0 < k -> k < n -> (k - 1) / 2 ≠ i -> leK (atH L ((k - 1) / 2)) (atH L k)) -> (∀ k,0 < k -> k < n -> (k - 1) / 2 = i -> 0 < i -> leK (atH L ((i - 1) / 2)) (atH L k)) -> Hp (dnH f L n i) n
  | 0,L,n,i,_,hf,h1,_=>fun k h0 hk=>h1 k h0 hk (by omega)
  | f + 1, L, n, i, hn, hf, h1, h2 => by
    rw [dnH]
    split
    . rename_i hc
      have hk:=kid_lt (L:=L) hc
      obtain ⟨c,hcd⟩ : ∃ c,kidH L n i = c:=⟨_,rfl⟩
      have hpc : (c - 1) / 2 = i:=by
        rw [<- hcd]; unfold kidH; split <;> omega
      have hmin : ∀ k,0 < k -> k < n -> (k - 1) / 2 = i -> leK (atH L c) (atH L k):=by
        intro k h0 hkn hki
        have hk2 : k = 2 * i + 1 \/ k = 2 * i + 2:=by omega
        rw [<- hcd]
        by_cases ha : 2 * i + 2 < n /\ ltH (atH L (2 * i + 2)) (atH L (2 * i + 1)) = true
        . rw [kid_a ha.1 ha.2]
          rcases hk2 with rfl | rfl
          . exact leK_lt ha.2
          . exact .inr ⟨rfl,Int.le_refl _⟩
        . have hb : kidH L n i = 2 * i + 1:=by rw [kidH,if_neg ha]
          rw [hb]
          rcases hk2 with rfl | rfl
          . exact .inr ⟨rfl,Int.le_refl _⟩
          . refine leK_of ?_
            cases hh : ltH (atH L (2 * i + 2)) (atH L (2 * i + 1)) with
            | false=>rfl
            | true=>exact absurd ⟨hkn,hh⟩ ha
      rw [hcd] at hk ⊢
      split
      . rename_i hlt
        have hle:=leK_lt hlt
        have g:=fun k=>swp_getD (L:=L) (i:=i) (j:=c) (k:=k) (by omega) (by omega)
        refine dn_hp f (swpL L i c) n c (by rw [swp_len]; exact hn) (by omega) (fun k h0 hkn hkc=>?_) (fun k h0 hkn hkc _=>?_)
        . rw [g,g,if_neg hkc]
          by_cases h3 : k = c
          . subst h3
            rw [if_pos rfl,if_pos hpc]; exact hle
          . rw [if_neg h3]
            by_cases h4 : (k - 1) / 2 = i
            . rw [if_pos h4,if_neg (by omega)]; exact hmin k h0 hkn h4
            . rw [if_neg h4]
              by_cases h5 : k = i
              . subst h5; rw [if_pos rfl]; exact h2 c (by omega) hk.1 hpc h0
              . rw [if_neg h5]; exact h1 k h0 hkn h4
        . rw [g,g,hpc,if_neg (by omega),if_pos rfl,if_neg (by omega),if_neg (by omega)]
          have:=h1 k h0 hkn (by omega)
          rwa [hkc] at this
      . rename_i hlt
        intro k h0 hkn
        by_cases h4 : (k - 1) / 2 = i
        . rw [h4]
          refine leK_tr (leK_of ?_) (hmin k h0 hkn h4)
          cases hh : ltH (atH L c) (atH L i) with
          | false=>rfl
          | true=>exact absurd hh hlt
        . exact h1 k h0 hkn h4
    . rename_i hc
      intro k h0 hkn
      exact h1 k h0 hkn (by omega)
theorem po_hp {L : List Hd} (h0 : 0 < L.length) (h : Hp L L.length) : Hp (poH L) (poH L).length:=by
  rw [po_len]
  have g:=fun k=>swp_getD (L:=L) (i:=0) (j:=L.length - 1) (k:=k) h0 (by omega)
  have hd:=dn_hp L.length (swpL L 0 (L.length - 1)) (L.length - 1) 0 (by rw [swp_len]; omega) (by omega) (fun k hk hkn hk0=>by
    rw [g,g,if_neg (by omega),if_neg hk0,if_neg (by omega),if_neg (by omega)]
    exact h k hk (by omega)) (fun k _ _ _ h=>by omega)
  intro k hk hkn
  have hat : ∀ k,k < L.length - 1 -> atH (poH L) k = atH (dnH L.length (swpL L 0 (L.length - 1)) (L.length - 1) 0) k:=fun k hk=>by
    unfold atH poH
    rw [List.getD_eq_getElem?_getD,List.getD_eq_getElem?_getD,List.getElem?_take_of_lt hk]
  rw [hat k hkn,hat _ (by omega)]
  exact hd k hk hkn
theorem pt_hp {L : List Hd} (x : Hd) (h : Hp L L.length) : Hp (ptH L x) (ptH L x).length:=by
  unfold ptH
  split
  . exact pu_hp x h
  . exact h
theorem in_hp (c : List (List (Int × Int))) : ∀ k,Hp (inL c k) (inL c k).length
  | 0=>fun i _ h=>by simp [inL] at h
  | k + 1=>pt_hp _ (in_hp c k)
theorem root_least {L : List Hd} (h0 : 0 < L.length) (h : Hp L L.length) {x : Hd} (hx : x ∈ L) : leK (atH L 0) x:=by
  obtain ⟨i,hi,rfl⟩:=List.getElem_of_mem hx
  have:=hp_root h i hi
  simpa [atH,hi,h0] using this
end
section
open Go.RowKit
attribute [local irreducible] FS FO IT HS
def accG (r : Int) (o : Option Int) : Option Int -> Option Int
  | none=>o
  | some w=>accS r o w
def colD (r : Int) (D : Nat -> List (Int × Int)) (m : Nat) (k : Int) : Option Int:=(List.range m).foldl (fun o j=>accG r o (gt (D j) k)) none
theorem fold_G {r : Int} {G G' : Nat -> Option Int} {j0 M : Nat} {w : Int} (h1 : ∀ j,j ≠ j0 -> G' j = G j) (h2 : G j0 = none) (h3 : G' j0 = some w) (h4 : ∀ j,j0 < j -> j < M -> G j = none) : ∀ m,m <= M -> (m <= j0 -> (List.range m).foldl (fun o j=>accG r o (G' j)) none = (List.range m).foldl (fun o j=>accG r o (G j)) none) /\ (j0 < m -> (List.range m).foldl (fun o j=>accG r o (G' j)) none = accS r ((List.range m).foldl (fun o j=>accG r o (G j)) none) w)
  | 0,_=>⟨fun _=>rfl,fun h=>by omega⟩
  | m + 1, hM => by
    have ih:=fold_G h1 h2 h3 h4 (r:=r) m (by omega)
    simp only [List.range_succ,List.foldl_append,List.foldl_cons,List.foldl_nil]
    refine ⟨fun h=>?_,fun h=>?_⟩
    . rw [ih.1 (by omega),h1 m (by omega)]
    . by_cases hm : m = j0
      . subst hm
        rw [ih.1 (Nat.le_refl _),h3,h2]; rfl
      . rw [ih.2 (by omega),h1 m hm,h4 m (by omega) (by omega)]; rfl
theorem fold_E {r : Int} {G G' : Nat -> Option Int} (h : ∀ j,G' j = G j) (m : Nat) : (List.range m).foldl (fun o j=>accG r o (G' j)) none = (List.range m).foldl (fun o j=>accG r o (G j)) none:=by
  rw [show G' = G from funext h]
structure Drn (r : Int) (c : List (List (Int × Int))) (L : List Hd) (O : List (Int × Int)) (D R : Nat -> List (Int × Int)) : Prop where
  app : ∀ j,j < c.length -> c.getD j [] = D j ++ R j
  mem : ∀ x ∈ L,∃ j,j < c.length /\ x = (R j,(j : Int)) /\ 0 < (R j).length
  all : ∀ j,j < c.length -> 0 < (R j).length -> (R j,(j : Int)) ∈ L
  nod : (L.map (·.2)).Nodup
  ord : ∀ j j',j < c.length -> j' < c.length -> ∀ y ∈ D j,∀ z ∈ R j',y.1 < z.1 \/ (y.1 = z.1 /\ j < j')
  up : Up O
  from' : ∀ x ∈ O,∃ j,j < c.length /\ ∃ y ∈ D j,y.1 = x.1
  val : ∀ k,gt O k = colD r D c.length k
  heap : Hp L L.length
theorem up_acc {r : Int} {O : List (Int × Int)} {s : Int × Int} (hu : Up O) (hs : ∀ x ∈ O,x.1 <= s.1) : Up (accO r O s) /\ (∀ k,gt (accO r O s) k = if k = s.1 then accS r (gt O s.1) s.2 else gt O k) /\ ∀ x ∈ accO r O s,x.1 = s.1 \/ ∃ y ∈ O,y.1 = x.1:=by
  unfold accO
  rcases List.eq_nil_or_concat O with rfl | ⟨O',z,rfl⟩
  . rw [if_neg (by simp)]
    refine ⟨by simp [Up],fun k=>?_,fun x hx=>by simp at hx; exact .inl (by rw [hx])⟩
    rw [List.nil_append,gt_cons,gt_nil,gt_nil]
    by_cases h : k = s.1
    . rw [if_pos h.symm,if_pos h]; rfl
    . rw [if_neg (Ne.symm h),if_neg h]
  . have hlen : (O'.concat z).length - 1 = O'.length:=by simp
    have hz : (O'.concat z).getD ((O'.concat z).length - 1) (0,0) = z:=by rw [hlen]; simp
    rw [hz]
    rw [List.concat_eq_append] at *
    have hu' : Up O' /\ ∀ x ∈ O',x.1 < z.1:=by
      unfold Up at hu ⊢
      rw [List.pairwise_append] at hu
      exact ⟨hu.1,fun x hx=>hu.2.2 x hx z (List.mem_singleton.2 rfl)⟩
    have hgz : gt (O' ++ [z]) z.1 = some z.2:=gt_some hu (by simp)
    split
    . rename_i hc
      have hzs : z.1 = s.1:=hc.2
      have hset : (O' ++ [z]).set ((O' ++ [z]).length - 1) (s.1,rAdd r z.2 s.2) = O' ++ [(s.1,rAdd r z.2 s.2)]:=by simp
      rw [hset]
      refine ⟨?_,fun k=>?_,fun x hx=>?_⟩
      . unfold Up
        rw [List.pairwise_append]
        exact ⟨hu'.1,by simp,fun x hx y hy=>by rw [List.mem_singleton.1 hy]; have:=hu'.2 x hx; omega⟩
      . rw [gt_append,gt_cons,gt_nil]
        by_cases h : k = s.1
        . subst h
          rw [if_pos rfl,if_pos rfl,<- hzs,hgz,gt_none fun x hx e=>by have:=hu'.2 x hx; omega]; rfl
        . rw [if_neg (Ne.symm h),if_neg h,gt_append,gt_cons,gt_nil,if_neg (by rw [hzs]; exact Ne.symm h)]
      . rcases List.mem_append.1 hx with hx | hx
        . exact .inr ⟨x,by simp [hx],rfl⟩
        . rw [List.mem_singleton.1 hx]; exact .inl rfl
    . rename_i hc
      have hzs : z.1 < s.1:=by
        have:=hs z (by simp)
        have hne : ¬ z.1 = s.1:=fun h=>hc ⟨by simp,h⟩
        omega
      have hlt : ∀ x ∈ O' ++ [z],x.1 < s.1:=fun x hx=>by
        rcases List.mem_append.1 hx with hx | hx
        . have:=hu'.2 x hx; omega
        . rw [List.mem_singleton.1 hx]; exact hzs
      refine ⟨?_,fun k=>?_,fun x hx=>?_⟩
      . unfold Up
        rw [List.pairwise_append]
        exact ⟨hu,by simp,fun x hx y hy=>by rw [List.mem_singleton.1 hy]; exact hlt x hx⟩
      . rw [gt_append,gt_cons s,gt_nil]
        by_cases h : k = s.1
        . subst h
          rw [if_pos rfl,if_pos rfl,gt_none fun x hx e=>by have:=hlt x hx; omega]; rfl
        . rw [if_neg (Ne.symm h),if_neg h]; simp
      . rcases List.mem_append.1 hx with hx | hx
        . exact .inr ⟨x,hx,rfl⟩
        . rw [List.mem_singleton.1 hx]; exact .inl rfl
theorem mem_pt {L : List Hd} {x y : Hd} : y ∈ ptH L x ↔ (y = x /\ 0 < x.1.length) \/ y ∈ L:=by
  unfold ptH
  split
  . rename_i h
    rw [(pu_perm L x).mem_iff,List.mem_cons]
    exact ⟨fun h'=>h'.elim (fun e=>.inl ⟨e,h⟩) .inr,fun h'=>h'.elim (fun e=>.inl e.1) .inr⟩
  . rename_i h
    exact ⟨.inr,fun h'=>h'.elim (fun e=>absurd e.2 h) id⟩
theorem drn_step {r : Int} {c : List (List (Int × Int))} {L : List Hd} {O : List (Int × Int)} {D R : Nat -> List (Int × Int)} (hc : ∀ l ∈ c,Up l) (h : Drn r c L O D R) (h0 : 0 < L.length) : ∃ D' R',Drn r c (nxL L) (accO r O ((L.getD 0 ([],0)).1.getD 0 (0,0))) D' R':=by
  obtain ⟨j0,hj0,hx0,hn0⟩:=h.mem _ (at_mem h0)
  obtain ⟨s,t,hst⟩ : ∃ s t,R j0 = s::t:=by
    cases hh : R j0 with
    | nil=>rw [hh] at hn0; simp at hn0
    | cons s t=>exact ⟨s,t,rfl⟩
  have e1 : L.getD 0 ([],0) = (s::t,(j0 : Int)):=by
    have : atH L 0 = _:=hx0
    rw [hst] at this; exact this
  have hs : (L.getD 0 ([],0)).1.getD 0 (0,0) = s:=by rw [e1]; rfl
  have hnx : nxL L = ptH (poH L) (t,(j0 : Int)):=by rw [nxL,e1]; rfl
  rw [hs,hnx]
  have hupc : ∀ j,j < c.length -> Up (D j ++ R j):=fun j hj=>by
    rw [<- h.app j hj]
    exact hc _ (by rw [List.getD_eq_getElem?_getD,List.getElem?_eq_getElem hj]; exact List.getElem_mem _)
  have hu0:=hupc j0 hj0
  rw [hst] at hu0
  have hperm:=po_perm h0
  have hatm : atH L 0 = (s::t,(j0 : Int)):=e1
  rw [hatm] at hperm
  have hpm : ∀ y,y ∈ L ↔ y = (s::t,(j0 : Int)) \/ y ∈ poH L:=fun y=>by rw [hperm.mem_iff,List.mem_cons]
  have hnd : ((j0 : Int)::(poH L).map (·.2)).Nodup:=by
    have:=(hperm.map (·.2)).nodup_iff.1 h.nod
    simpa using this
  have hpo : ∀ y ∈ poH L,∃ j,j < c.length /\ j ≠ j0 /\ y = (R j,(j : Int)) /\ 0 < (R j).length:=fun y hy=>by
    obtain ⟨j,hj,he,hn⟩:=h.mem y ((hpm y).2 (.inr hy))
    refine ⟨j,hj,fun hjj=>?_,he,hn⟩
    subst hjj
    exact (List.nodup_cons.1 hnd).1 (List.mem_map.2 ⟨y,hy,by rw [he]⟩)
  have hle : ∀ x ∈ O,x.1 <= s.1:=fun x hx=>by
    obtain ⟨j,hj,y,hy,he⟩:=h.from' x hx
    have:=h.ord j j0 hj hj0 y hy s (by rw [hst]; simp)
    omega
  obtain ⟨a1,a2,a3⟩:=up_acc (r:=r) (s:=s) h.up hle
  have hD0 : ∀ y ∈ D j0,y.1 < s.1:=fun y hy=>by
    unfold Up at hu0
    rw [List.pairwise_append] at hu0
    exact hu0.2.2 y hy s (by simp)
  have ht : Up (s::t):=by
    unfold Up at hu0 ⊢
    rw [List.pairwise_append] at hu0
    exact hu0.2.1
  refine ⟨fun j=>if j = j0 then D j0 ++ [s] else D j,fun j=>if j = j0 then t else R j,?_,?_,?_,?_,?_,a1,?_,?_,pt_hp _ (po_hp h0 h.heap)⟩
  . intro j hj
    by_cases hjj : j = j0
    . subst hjj; rw [if_pos rfl,if_pos rfl,h.app j hj,hst]; simp
    . rw [if_neg hjj,if_neg hjj]; exact h.app j hj
  . intro x hx
    rcases mem_pt.1 hx with ⟨rfl,hn⟩ | hx
    . exact ⟨j0,hj0,by rw [if_pos rfl],by rw [if_pos rfl]; exact hn⟩
    . obtain ⟨j,hj,hjj,he,hn⟩:=hpo x hx
      exact ⟨j,hj,by rw [if_neg hjj]; exact he,by rw [if_neg hjj]; exact hn⟩
  . intro j hj hn
    by_cases hjj : j = j0
    . subst hjj
      rw [if_pos rfl] at hn ⊢
      exact mem_pt.2 (.inl ⟨rfl,hn⟩)
    . rw [if_neg hjj] at hn ⊢
      refine mem_pt.2 (.inr ?_)
      rcases (hpm _).1 (h.all j hj hn) with he | hm
      . have:=congrArg Prod.snd he
        simp at this; omega
      . exact hm
  . unfold ptH
    split
    . exact (((pu_perm (poH L) (t,(j0 : Int))).map (·.2)).nodup_iff).2 (by simpa using hnd)
    . exact (List.nodup_cons.1 hnd).2
  . intro j j' hj hj' y hy z hz
    have hz' : z ∈ R j':=by
      by_cases hjj : j' = j0
      . subst hjj; rw [if_pos rfl] at hz; rw [hst]; exact List.mem_cons_of_mem _ hz
      . rw [if_neg hjj] at hz; exact hz
    have hnew : ∀ y,y = s -> j = j0 -> y.1 < z.1 \/ (y.1 = z.1 /\ j < j'):=fun y hys hjj=>by
      subst hys hjj
      by_cases hjj' : j' = j
      . subst hjj'
        rw [if_pos rfl] at hz
        exact .inl (ht.head z hz)
      . have hn' : 0 < (R j').length:=List.length_pos_of_mem hz'
        have hroot:=root_least h0 h.heap (h.all j' hj' hn')
        rw [hatm] at hroot
        obtain ⟨z0,tz,hzz⟩ : ∃ z0 tz,R j' = z0::tz:=by
          cases hh : R j' with
          | nil=>rw [hh] at hn'; simp at hn'
          | cons a b=>exact ⟨a,b,rfl⟩
        have huz : Up (z0::tz):=by
          have:=hupc j' hj'
          rw [hzz] at this
          unfold Up at this ⊢
          rw [List.pairwise_append] at this
          exact this.2.1
        rw [hzz] at hroot hz'
        have hr' : y.1 < z0.1 \/ (y.1 = z0.1 /\ (j : Int) <= (j' : Int)):=hroot
        rcases List.mem_cons.1 hz' with rfl | hz''
        . omega
        . have:=huz.head z hz''
          omega
    by_cases hjj : j = j0
    . subst hjj
      rw [if_pos rfl] at hy
      rcases List.mem_append.1 hy with hy | hy
      . exact h.ord j j' hj hj' y hy z hz'
      . exact hnew y (List.mem_singleton.1 hy) rfl
    . rw [if_neg hjj] at hy
      exact h.ord j j' hj hj' y hy z hz'
  . intro x hx
    rcases a3 x hx with he | ⟨y,hy,he⟩
    . exact ⟨j0,hj0,s,by rw [if_pos rfl]; simp,he.symm⟩
    . obtain ⟨j,hj,y',hy',he'⟩:=h.from' y hy
      refine ⟨j,hj,y',?_,he'.trans he⟩
      by_cases hjj : j = j0
      . subst hjj; rw [if_pos rfl]; simp [hy']
      . rw [if_neg hjj]; exact hy'
  . intro k
    rw [a2 k]
    have hG : ∀ j,j ≠ j0 -> gt (if j = j0 then D j0 ++ [s] else D j) k = gt (D j) k:=fun j hj=>by rw [if_neg hj]
    by_cases hk : k = s.1
    . rw [if_pos hk,h.val s.1]
      subst hk
      refine ((fold_G (r:=r) (G:=fun j=>gt (D j) s.1) (G':=fun j=>gt (if j = j0 then D j0 ++ [s] else D j) s.1) (j0:=j0) (w:=s.2) hG (gt_none fun x hx e=>by have:=hD0 x hx; omega) ?_ (M:=c.length) ?_ c.length (Nat.le_refl _)).2 hj0).symm
      . show gt (if j0 = j0 then D j0 ++ [s] else D j0) s.1 = _
        rw [if_pos rfl,gt_append,gt_none fun x hx e=>by have:=hD0 x hx; omega,gt_cons,if_pos rfl]; rfl
      . intro j hjj hj
        exact gt_none fun x hx e=>by have:=h.ord j j0 hj hj0 x hx s (by rw [hst]; simp); omega
    . rw [if_neg hk,h.val k]
      refine (fold_E (G:=fun j=>gt (D j) k) (G':=fun j=>gt (if j = j0 then D j0 ++ [s] else D j) k) (fun j=>?_) c.length).symm
      by_cases hjj : j = j0
      . subst hjj
        show gt (if j = j then D j ++ [s] else D j) k = _
        rw [if_pos rfl,gt_append,gt_cons,if_neg (Ne.symm hk),gt_nil]; simp
      . exact hG j hjj
theorem in_mem (c : List (List (Int × Int))) : ∀ k j,j < k -> 0 < (c.getD j []).length -> (c.getD j [],(j : Int)) ∈ inL c k
  | 0,j,h,_=>by omega
  | k + 1, j, h, hn => by
    rw [inL]
    refine mem_pt.2 ?_
    by_cases hj : j = k
    . subst hj; exact .inl ⟨rfl,hn⟩
    . exact .inr (in_mem c k j (by omega) hn)
theorem in_nod (c : List (List (Int × Int))) : ∀ k,((inL c k).map (·.2)).Nodup /\ ∀ x ∈ inL c k,x.2 < (k : Int)
  | 0=>⟨by simp [inL],fun x hx=>by simp [inL] at hx⟩
  | k + 1 => by
    have ih:=in_nod c k
    refine ⟨?_,fun x hx=>?_⟩
    . rw [inL,ptH]
      split
      . refine (((pu_perm (inL c k) (c.getD k [],(k : Int))).map (·.2)).nodup_iff).2 ?_
        simp only [List.map_cons]
        refine List.nodup_cons.2 ⟨fun hm=>?_,ih.1⟩
        obtain ⟨x,hx,he⟩:=List.mem_map.1 hm
        have:=ih.2 x hx
        have he' : x.2 = (k : Int):=he
        omega
      . exact ih.1
    . rw [inL] at hx
      rcases mem_pt.1 hx with ⟨rfl,_⟩ | hx
      . show (k : Int) < ((k + 1 : Nat) : Int); omega
      . have:=ih.2 x hx; omega
theorem drn_start (r : Int) (c : List (List (Int × Int))) : Drn r c (inL c c.length) [] (fun _=>[]) (fun j=>c.getD j []) where
  app:=fun j _=>rfl
  mem:=in_all c.length (Nat.le_refl _) fun j hj hn=>⟨j,hj,rfl,hn⟩
  all:=fun j hj hn=>in_mem c c.length j hj hn
  nod:=(in_nod c c.length).1
  ord:=fun j j' _ _ y hy=>by simp at hy
  up:=by simp [Up]
  from':=fun x hx=>by simp at hx
  val := fun k => by
    rw [gt_nil]
    unfold colD
    have : ∀ m,(List.range m).foldl (fun o j=>accG r o (gt ((fun _=>[]) j) k)) none = none:=by
      intro m
      induction m with
      | zero=>rfl
      | succ m ih=>rw [List.range_succ,List.foldl_append,ih]; rfl
    exact (this _).symm
  heap:=in_hp c c.length
theorem drn_all {r : Int} {c : List (List (Int × Int))} (hc : ∀ l ∈ c,Up l) : ∀ (f : Nat) (L : List Hd) (O : List (Int × Int)) (D R : Nat -> List (Int × Int)),Drn r c L O D R -> twH L < f -> ∃ D' R',Drn r c [] (drH r f L O) D' R'
  | 0,_,_,_,_,_,h=>by omega
  | f + 1, L, O, D, R, h, hf => by
    rw [drH]
    split
    . rename_i h0
      obtain ⟨D',R',h'⟩:=drn_step hc h h0
      have hL : ∀ x ∈ L,0 < x.1.length:=fun x hx=>by obtain ⟨j,_,he,hn⟩:=h.mem x hx; rw [he]; exact hn
      exact drn_all hc f _ _ D' R' h' (by have:=tw_nx h0 hL; omega)
    . rename_i h0
      have : L = []:=List.eq_nil_of_length_eq_zero (by omega)
      subst this
      exact ⟨D,R,h⟩
theorem mrg_is (r : Int) {c : List (List (Int × Int))} (hc : ∀ l ∈ c,Up l) : Up (mrg r c) /\ ∀ k,gt (mrg r c) k = colD r (fun j=>c.getD j []) c.length k:=by
  obtain ⟨D,R,h⟩:=drn_all hc _ _ _ _ _ (drn_start r c) (Nat.lt_succ_self _)
  refine ⟨h.up,fun k=>?_⟩
  have hv:=h.val k
  have hD : ∀ j,j < c.length -> D j = c.getD j []:=fun j hj=>by
    have h1:=h.app j hj
    have h2 : R j = []:=by
      cases hh : R j with
      | nil=>rfl
      | cons a b=>have:=h.all j hj (by rw [hh]; simp); simp at this
    rw [h1,h2,List.append_nil]
  have : ∀ m,m <= c.length -> (List.range m).foldl (fun o j=>accG r o (gt (D j) k)) none = (List.range m).foldl (fun o j=>accG r o (gt (c.getD j []) k)) none:=by
    intro m
    induction m with
    | zero=>intro _; rfl
    | succ m ih =>
      intro hm
      simp only [List.range_succ,List.foldl_append,List.foldl_cons,List.foldl_nil]
      rw [ih (by omega),hD m (by omega)]
  rw [show mrg r c = drH r (twH (inL c c.length) + 1) (inL c c.length) [] from rfl,hv]
  exact this _ (Nat.le_refl _)
end
end Go.Proofs.YtelbhbadkbcakaaGreat
