/- Sparse vectors: which are right. Sparse vectors: where a place stands. Sparse vectors: the value at a place; copies. Sparse vectors: without some items. Sparse vectors: at places of a set; without a place. Two sparse vectors: the places of both. What comes of two sparse vectors, place by place. Two sparse vectors: the program's functions. Two sparse vectors, place by place: in plain words. -/
import Derived.Test.YtelbhbadkbcakaaGreatW2
import Derived.Test.YtelbhbadkbcakaaGreatF2
namespace Go.Proofs.YtelbhbadkbcakaaGreat
section
open Go.RowKit
attribute [local irreducible] FS FO IT HS
def its (l : List (Int × Int)) : List (List SV):=l.map fun x=>[.int .i64 x.1,.int .i64 x.2]
def IL (l : List (Int × Int)) : SV:=.slc 2 (its l)
def VC (n : Int) (l : List (Int × Int)) : SV:=.agg [.int .i64 n,IL l]
theorem its_len (l : List (Int × Int)) : (its l).length = l.length:=by simp [its]
theorem its_get {l : List (Int × Int)} {k : Nat} {x : List SV} (h : (its l)[k]? = some x) : ∃ y,l[k]? = some y /\ x = [.int .i64 y.1,.int .i64 y.2]:=by
  simp only [its,List.getElem?_map,Option.map_eq_some_iff] at h
  obtain ⟨y,h1,h2⟩:=h
  exact ⟨y,h1,h2.symm⟩
def Ib (l : List (Int × Int)) : Prop:=∀ x ∈ l,I64 x.1 /\ I64 x.2
def ups (n : Int) : Int -> List (Int × Int) -> Bool
  | _,[]=>true
  | l,x::xs=>!(decide (x.1 <= l) || decide (n <= x.1)) && ups n x.1 xs
def badAt (n : Int) : Int -> List (Int × Int) -> Nat -> Int
  | _,[],_=>-1
  | l,x::xs,k=>if (decide (x.1 <= l) || decide (n <= x.1)) = true then k else badAt n x.1 xs (k + 1)
theorem badAt_ups (n : Int) : ∀ (xs : List (Int × Int)) (l : Int) (k : Nat),decide (0 <= badAt n l xs k) = !ups n l xs
  | [],l,k=>rfl
  | x :: xs, l, k => by
    simp only [badAt,ups]
    split
    . rename_i h; rw [h]; simp
    . rename_i h; rw [badAt_ups n xs]; simp only [Bool.not_eq_true] at h; rw [h]; rfl
def isV (n : Int) (l : List (Int × Int)) : Bool:=decide (0 <= n) && decide (n <= 4096) && ups n (-1) l
def ir_spvec_within : IR :=
(.seq (.reg (⟨some 4,.mv (.c (.bool false)),none⟩::[])) (.seq (.reg (⟨some 5,.mv (.t 0),none⟩::⟨some 6,.bin .geq (.t 5) (.c (.int .i64 0)),none⟩::⟨some 7,.mv (.t 6),none⟩::⟨some 8,.mv (.t 0),some (7,true)⟩::⟨some 9,.mv (.t 1),some (7,true)⟩::⟨some 10,.bin .leq (.t 8) (.t 9),some (7,true)⟩::⟨some 11,.pick (.t 7) (.t 10) (.c (.bool false)),none⟩::⟨some 4,.mv (.t 11),none⟩::[])) .ret))
theorem cd_spvec_within : Code1 Tryz.prog 50 12 ir_spvec_within [.t 4]:=⟨Tryz.call50,_,_,Tryz.func50,rfl,by kernel_rfl,by kernel_rfl,by kernel_rfl,by kernel_rfl⟩
theorem fs_vwithin (n m : Int) : FS Tryz.prog 50 [.int .i64 n,.int .i64 m] (.bool (decide (0 <= n) && decide (n <= m))):=by
  refine fs_of_cvc mixed cd_spvec_within (by simp) ?_
  repeat' (conv=>whnf); first | refine Br.tt ?_ | refine Br.ff ?_ |(refine Br.dec (fun h=>?_) (fun h=>?_)) <;> try (exfalso; omega) | refine And.intro rfl ?_ | fail
  all_goals (show SV.bool _ = SV.bool _; simp [*])
def ir_spvec_Right_1 : IR :=
(.seq (.reg (⟨some 3,.bx (.t 0),none⟩::⟨some 4,.mv (.c (.bool false)),none⟩::[])) (.seq (.reg (⟨some 6,.fa 0 (.t 3),none⟩::⟨some 7,.ld 1 false (.t 6),none⟩::⟨some 8,.ld 1 false (.t 1),none⟩::⟨some 9,.bin .leq (.t 7) (.t 8),none⟩::⟨some 10,.mv (.t 9),none⟩::⟨some 11,.fa 0 (.t 3),some (10,false)⟩::⟨some 12,.ld 1 false (.t 11),some (10,false)⟩::⟨some 13,.fa 0 (.t 2),some (10,false)⟩::⟨some 14,.ld 1 false (.t 13),some (10,false)⟩::⟨some 15,.bin .geq (.t 12) (.t 14),some (10,false)⟩::⟨some 16,.pick (.t 10) (.c (.bool true)) (.t 15),none⟩::⟨some 5,.mv (.t 16),none⟩::[])) (.seq (.reg (⟨some 17,.fa 0 (.t 3),none⟩::⟨some 18,.ld 1 false (.t 17),none⟩::⟨none,.st 1 (.t 1) (.t 18),none⟩::[])) (.seq (.reg (⟨some 19,.mv (.t 5),none⟩::⟨some 4,.mv (.t 19),none⟩::[])) .ret))))
theorem cd_spvec_Right_1 : Code1 Tryz.prog 52 20 ir_spvec_Right_1 [.t 4]:=⟨Tryz.call52,_,_,Tryz.func52,rfl,by kernel_rfl,by kernel_rfl,by kernel_rfl,by kernel_rfl⟩
theorem hs_Right1 (n last p v : Int) (l : List (Int × Int)) : HS Tryz.prog 52 [.agg [.int .i64 p,.int .i64 v],.ptr 1 0 0 0,.ptr 0 0 0 0] [.vars [.int .i64 n,IL l],.vars [.int .i64 last]] (.bool (decide (p <= last) || decide (n <= p))) [.vars [.int .i64 n,IL l],.vars [.int .i64 p]] []:=by
  refine hs_of_cvc mixed cd_spvec_Right_1 (by simp) ?_
  repeat' (conv=>whnf); first | refine Br.tt ?_ | refine Br.ff ?_ |(refine Br.dec (fun h=>?_) (fun h=>?_)) <;> try (exfalso; omega) | refine And.intro rfl ?_ |(refine And.intro (by simp only [lens_all]; first | done | omega) ?_) | fail
  all_goals exact ⟨by show SV.bool _ = SV.bool _; simp [h],⟨rfl,rfl,trivial⟩,⟨rfl,trivial⟩,Nat.le_refl _,rfl,rfl⟩
def lst (last : Int) (l : List (Int × Int)) : Nat -> Int
  | 0=>last
  | k + 1=>(l.getD k (0,0)).1
theorem badAt_step (n last : Int) (l : List (Int × Int)) (k : Nat) (y : Int × Int) (hk : l[k]? = some y) : badAt n (lst last l k) (l.drop k) k = if (decide (y.1 <= lst last l k) || decide (n <= y.1)) = true then (k : Int) else badAt n (lst last l (k + 1)) (l.drop (k + 1)) (k + 1):=by
  have hlt:=(List.getElem?_eq_some_iff.1 hk).1
  have he:=(List.getElem?_eq_some_iff.1 hk).2
  rw [List.drop_eq_getElem_cons hlt,he,badAt]
  have : lst last l (k + 1) = y.1:=by simp [lst,List.getD_eq_getElem?_getD,hk]
  rw [this]
def ir_slices_IndexFunc_api_Item_api_Item : IR :=
(.seq (.reg (⟨some 4,.mv (.c (.int .i64 0)),none⟩::[])) (.seq (.seq (.reg (⟨some 6,.mv (.t 0),none⟩::⟨some 7,.ln (.t 6),none⟩::⟨some 8,.mv (.c (.int .i64 0)),none⟩::[])) (.block 0 (.loop (.seq (.reg (⟨some 9,.bin .lss (.t 8) (.t 7),none⟩::[])) (.seq (.cond (.t 9) .skip (.exit 0)) (.seq (.block 1 (.seq (.reg (⟨some 10,.mv (.t 8),none⟩::⟨some 5,.mv (.t 10),none⟩::[])) (.seq (.reg (⟨some 11,.mv (.t 1),none⟩::⟨some 12,.mv (.t 0),none⟩::⟨some 13,.mv (.t 5),none⟩::⟨some 14,.ia 2 (.t 12) (.t 13),none⟩::⟨some 15,.ld 2 true (.t 14),none⟩::⟨some 16,.call (.t 11) [(.t 15)],none⟩::[])) (.cond (.t 16) (.seq (.reg (⟨some 17,.mv (.t 5),none⟩::⟨some 4,.mv (.t 17),none⟩::[])) .ret) .skip)))) (.reg (⟨some 18,.bin .add (.t 8) (.c (.int .i64 1)),none⟩::⟨some 8,.mv (.t 18),none⟩::[])))))))) (.seq (.reg (⟨some 4,.mv (.c (.int .i64 (-1))),none⟩::[])) .ret)))
theorem cd_slices_IndexFunc_api_Item_api_Item : Code1 Tryz.prog 78 19 ir_slices_IndexFunc_api_Item_api_Item [.t 4]:=⟨Tryz.call78,_,_,Tryz.func78,rfl,by kernel_rfl,by kernel_rfl,by kernel_rfl,by kernel_rfl⟩
theorem hs_Index (n last : Int) (l : List (Int × Int)) (hl : l.length <= 1000000000) : HS Tryz.prog 78 [IL l,.fn 52 [.ptr 1 0 0 0,.ptr 0 0 0 0]] [.vars [.int .i64 n,IL l],.vars [.int .i64 last]] (.int .i64 (badAt n last l 0)) [.dead,.dead] []:=by
  refine hs_of_cvc mixed cd_slices_IndexFunc_api_Item_api_Item (by simp) ?_
  refine ⟨Nat,fun k=>k <= l.length /\ badAt n (lst last l k) (l.drop k) k = badAt n last l 0,fun k=>[(0,IL l),(1,.fn 52 [.ptr 1 0 0 0,.ptr 0 0 0 0]),(7,.int .i64 (l.length : Int)),(8,.int .i64 (k : Int))],fun k=>[.vars [.int .i64 n,IL l],.vars [.int .i64 (lst last l k)]],fun _=>none,fun k=>l.length - k,⟨0,⟨by omega,rfl⟩,⟨rfl,rfl,?_,rfl,trivial⟩,⟨⟨rfl,rfl,trivial⟩,⟨rfl,trivial⟩,trivial⟩,rfl⟩,fun k hk=>?_⟩
  . show SV.int .i64 _ = SV.int .i64 _
    rw [its_len]
  obtain ⟨hk1,hk2⟩:=hk
  repeat' (conv=>whnf); first |(refine Or.inr (Or.inr (Or.inr (Or.inl ⟨_,_,[],hs_Right1 n (lst last l k) _ _ l,by simp,?_⟩)))) |((refine fun x hx=>?_); (obtain ⟨y,hy,rfl⟩:=its_get hx; clear hx)) |(refine Br.dec (fun h=>?_) (fun h=>?_)) <;> try (exfalso; omega) |(refine Br.mk (fun h=>?_) (fun h=>?_)) | refine And.intro rfl ?_ |(refine And.intro (by omega) ?_) |(refine ⟨_,Or.inl ⟨⟨by omega,by omega⟩,rfl⟩,?_⟩) |(refine And.intro (by simp only [lens_all,its_len]; first | done | omega) ?_) | fail
  . rename_i hlt
    rw [badAt_step n last l k y hy,if_pos h] at hk2
    exact ⟨by show SV.int .i64 _ = SV.int .i64 _; rw [<- hk2],trivial,trivial,trivial⟩
  . rename_i hlt
    have hy' : l[k]? = some y:=hy
    rw [badAt_step n last l k y hy',if_neg (by rw [h]; simp)] at hk2
    refine ⟨k + 1,⟨by omega,hk2⟩,(show l.length - (k + 1) < l.length - k by omega),⟨rfl,rfl,rfl,rfl,trivial⟩,⟨⟨rfl,rfl,trivial⟩,⟨?_,trivial⟩,trivial⟩,rfl⟩
    show SV.int .i64 _ = SV.int .i64 _
    simp [lst,List.getD_eq_getElem?_getD,hy']
  . have : l.drop k = []:=List.drop_eq_nil_of_le (by omega)
    rw [this] at hk2
    exact ⟨by show SV.int .i64 _ = SV.int .i64 _; rw [<- hk2]; rfl,trivial,trivial,trivial⟩
def ir_slices_ContainsFunc_api_Item_api_Item : IR :=
(.seq (.reg (⟨some 4,.mv (.c (.bool false)),none⟩::[])) (.seq (.reg (⟨some 5,.mv (.t 0),none⟩::⟨some 6,.mv (.t 1),none⟩::⟨some 7,.call (.c (.fn 78 [])) [(.t 5),(.t 6)],none⟩::⟨some 8,.bin .geq (.t 7) (.c (.int .i64 0)),none⟩::⟨some 4,.mv (.t 8),none⟩::[])) .ret))
theorem cd_slices_ContainsFunc_api_Item_api_Item : Code1 Tryz.prog 51 9 ir_slices_ContainsFunc_api_Item_api_Item [.t 4]:=⟨Tryz.call51,_,_,Tryz.func51,rfl,by kernel_rfl,by kernel_rfl,by kernel_rfl,by kernel_rfl⟩
theorem hs_Contains (n last : Int) (l : List (Int × Int)) (hl : l.length <= 1000000000) : HS Tryz.prog 51 [IL l,.fn 52 [.ptr 1 0 0 0,.ptr 0 0 0 0]] [.vars [.int .i64 n,IL l],.vars [.int .i64 last]] (.bool (!ups n last l)) [.dead,.dead] []:=by
  refine hs_of_cvc mixed cd_slices_ContainsFunc_api_Item_api_Item (by simp) ?_
  repeat' (conv=>whnf); first |(refine Or.inr (Or.inr (Or.inr (Or.inl ⟨_,_,[],hs_Index n last l hl,by simp,?_⟩)))) | refine And.intro rfl ?_ | fail
  exact ⟨by show SV.bool _ = SV.bool _; rw [<- badAt_ups n l last 0],trivial,trivial,trivial⟩
def ir_spvec_Right : IR :=
(.seq (.reg (⟨some 1,.bx (.t 0),none⟩::⟨some 2,.mv (.c (.bool false)),none⟩::[])) (.seq (.seq (.reg (⟨some 4,.fa 0 (.t 1),none⟩::⟨some 5,.ld 1 false (.t 4),none⟩::⟨some 6,.call (.c (.fn 50 [])) [(.t 5),(.c (.int .i64 4096))],none⟩::⟨some 7,.un .not (.t 6),none⟩::[])) (.cond (.t 7) (.seq (.reg (⟨some 2,.mv (.c (.bool false)),none⟩::[])) .ret) .skip)) (.seq (.reg (⟨some 3,.al [.int .i64 0],none⟩::⟨none,.st 1 (.t 3) (.c (.int .i64 (-1))),none⟩::[])) (.seq (.reg (⟨some 8,.fa 1 (.t 1),none⟩::⟨some 9,.ld 1 false (.t 8),none⟩::⟨some 10,.fn 52 [(.t 3),(.t 1)],none⟩::⟨some 11,.call (.c (.fn 51 [])) [(.t 9),(.t 10)],none⟩::⟨some 12,.un .not (.t 11),none⟩::⟨some 2,.mv (.t 12),none⟩::[])) .ret))))
theorem cd_spvec_Right : Code1 Tryz.prog 21 13 ir_spvec_Right [.t 2]:=⟨Tryz.call21,_,_,Tryz.func21,rfl,by kernel_rfl,by kernel_rfl,by kernel_rfl,by kernel_rfl⟩
theorem fs_vRight (n : Int) (l : List (Int × Int)) (hl : l.length <= 1000000000) : FS Tryz.prog 21 [VC n l] (.bool (isV n l)):=by
  refine fs_of_cvc mixed cd_spvec_Right (by simp) ?_
  repeat' (conv=>whnf); first |(refine Or.inl ⟨by rfl,_,fs_vwithin _ _,?_⟩) |(refine Or.inr (Or.inr (Or.inr (Or.inl ⟨_,_,[],hs_Contains n (-1) l hl,by simp,?_⟩)))) | refine Br.neg ?_ |(refine Br.mk (fun h=>?_) (fun h=>?_)) | refine And.intro rfl ?_ |(refine And.intro (by simp only [lens_all]; first | done | omega) ?_) | fail
  all_goals (show SV.bool _ = SV.bool _; simp [isV, *])
def sn (n : Int) (l : List (Int × Int)) : Int:=if isV n l = true then n else 0
def sl (n : Int) (l : List (Int × Int)) : List (Int × Int):=if isV n l = true then l else []
def ir_spvec_sure : IR :=
(.seq (.reg (⟨some 1,.bx (.t 0),none⟩::⟨some 2,.al [.int .i64 0,.nils],none⟩::[])) (.seq (.seq (.reg (⟨some 3,.ld 2 true (.t 1),none⟩::⟨some 4,.call (.c (.fn 21 [])) [(.t 3)],none⟩::[])) (.cond (.t 4) (.seq (.reg (⟨some 5,.ld 2 true (.t 1),none⟩::⟨none,.st 2 (.t 2) (.t 5),none⟩::[])) .ret) .skip)) (.seq (.reg (⟨some 6,.bld [.int .i64 0,.nils] [],none⟩::⟨none,.st 2 (.t 2) (.t 6),none⟩::[])) .ret)))
theorem cd_spvec_sure : Code1 Tryz.prog 91 7 ir_spvec_sure [.c 2 true 2]:=⟨Tryz.call91,_,_,Tryz.func91,rfl,by kernel_rfl,by kernel_rfl,by kernel_rfl,by kernel_rfl⟩
theorem fs_vsure (n : Int) (l : List (Int × Int)) (hl : l.length <= 1000000000) : FS Tryz.prog 91 [VC n l] (VC (sn n l) (sl n l)):=by
  refine fs_of_cvc mixed cd_spvec_sure (by simp) ?_
  obtain ⟨b,hb⟩ : ∃ b,isV n l = b:=⟨_,rfl⟩
  have c:=fs_vRight n l hl
  rw [hb] at c
  unfold sn sl
  rw [hb]
  repeat' (conv=>whnf); first |(refine Or.inl ⟨by rfl,_,c,?_⟩) |(refine Br.mk (fun h=>?_) (fun h=>?_)) | refine And.intro rfl ?_ |(refine And.intro (by simp only [lens_all]; first | done | omega) ?_) | fail
  . subst h; exact rfl
  . subst h; exact ⟨rfl,rfl,trivial⟩
def Up (l : List (Int × Int)) : Prop:=l.Pairwise fun x y=>x.1 < y.1
theorem ups_up (n : Int) : ∀ (l : List (Int × Int)) (k : Int),ups n k l = true -> Up l /\ ∀ x ∈ l,k < x.1 /\ x.1 < n
  | [],k,_=>⟨.nil,by simp⟩
  | x :: xs, k, h => by
    simp [ups] at h
    obtain ⟨h1,h2⟩:=ups_up n xs x.1 h.2
    refine ⟨List.pairwise_cons.2 ⟨fun y hy=>(h2 y hy).1,h1⟩,fun y hy=>?_⟩
    rcases List.mem_cons.1 hy with rfl | hy
    . exact h.1
    . have:=h2 y hy; omega
theorem sl_up (n : Int) (l : List (Int × Int)) : Up (sl n l) /\ ∀ x ∈ sl n l,0 <= x.1 /\ x.1 < sn n l:=by
  unfold sl sn
  split
  . rename_i h
    simp [isV] at h
    obtain ⟨h1,h2⟩:=ups_up n l (-1) h.2
    exact ⟨h1,fun x hx=>by have:=h2 x hx; omega⟩
  . exact ⟨.nil,by simp⟩
theorem sn_le (n : Int) (l : List (Int × Int)) : 0 <= sn n l /\ sn n l <= 4096:=by
  unfold sn
  split
  . rename_i h; simp [isV] at h; omega
  . omega
theorem Up.lt {l : List (Int × Int)} (h : Up l) {i j : Nat} {x y : Int × Int} (hi : l[i]? = some x) (hj : l[j]? = some y) (hij : i < j) : x.1 < y.1:=by
  obtain ⟨hi',rfl⟩:=List.getElem?_eq_some_iff.1 hi
  obtain ⟨hj',rfl⟩:=List.getElem?_eq_some_iff.1 hj
  exact List.pairwise_iff_getElem.1 h i j hi' hj' hij
end
section
open Go.RowKit
attribute [local irreducible] FS FO IT HS
def ir_cmp_isNaN_int : IR :=
(.seq (.reg (⟨some 2,.mv (.c (.bool false)),none⟩::[])) (.seq (.reg (⟨some 3,.mv (.t 0),none⟩::⟨some 4,.mv (.t 0),none⟩::⟨some 5,.bin .neq (.t 3) (.t 4),none⟩::⟨some 2,.mv (.t 5),none⟩::[])) .ret))
theorem cd_cmp_isNaN_int : Code1 Tryz.prog 109 6 ir_cmp_isNaN_int [.t 2]:=⟨Tryz.call109,_,_,Tryz.func109,rfl,by kernel_rfl,by kernel_rfl,by kernel_rfl,by kernel_rfl⟩
theorem fs_nan (n : Int) : FS Tryz.prog 109 [.int .i64 n] (.bool false):=by
  refine fs_of_cvc mixed cd_cmp_isNaN_int (by simp) ?_
  repeat' (conv=>whnf); first | refine And.intro rfl ?_ | fail
  all_goals (show SV.bool _ = SV.bool _; simp)
def ir_cmp_Compare_int : IR :=
(.seq (.reg (⟨some 4,.mv (.c (.int .i64 0)),none⟩::[])) (.seq (.reg (⟨some 7,.mv (.t 0),none⟩::⟨some 8,.call (.c (.fn 109 [])) [(.t 7)],none⟩::⟨some 5,.mv (.t 8),none⟩::[])) (.seq (.reg (⟨some 9,.mv (.t 1),none⟩::⟨some 10,.call (.c (.fn 109 [])) [(.t 9)],none⟩::⟨some 6,.mv (.t 10),none⟩::[])) (.seq (.seq (.reg (⟨some 11,.mv (.t 5),none⟩::[])) (.cond (.t 11) (.seq (.seq (.reg (⟨some 12,.mv (.t 6),none⟩::[])) (.cond (.t 12) (.seq (.reg (⟨some 4,.mv (.c (.int .i64 0)),none⟩::[])) .ret) .skip)) (.seq (.reg (⟨some 4,.mv (.c (.int .i64 (-1))),none⟩::[])) .ret)) .skip)) (.seq (.seq (.reg (⟨some 13,.mv (.t 6),none⟩::[])) (.cond (.t 13) (.seq (.reg (⟨some 4,.mv (.c (.int .i64 1)),none⟩::[])) .ret) .skip)) (.seq (.seq (.reg (⟨some 14,.mv (.t 0),none⟩::⟨some 15,.mv (.t 1),none⟩::⟨some 16,.bin .lss (.t 14) (.t 15),none⟩::[])) (.cond (.t 16) (.seq (.reg (⟨some 4,.mv (.c (.int .i64 (-1))),none⟩::[])) .ret) .skip)) (.seq (.seq (.reg (⟨some 17,.mv (.t 0),none⟩::⟨some 18,.mv (.t 1),none⟩::⟨some 19,.bin .gtr (.t 17) (.t 18),none⟩::[])) (.cond (.t 19) (.seq (.reg (⟨some 4,.mv (.c (.int .i64 1)),none⟩::[])) .ret) .skip)) (.seq (.reg (⟨some 4,.mv (.c (.int .i64 0)),none⟩::[])) .ret))))))))
theorem cd_cmp_Compare_int : Code1 Tryz.prog 100 20 ir_cmp_Compare_int [.t 4]:=⟨Tryz.call100,_,_,Tryz.func100,rfl,by kernel_rfl,by kernel_rfl,by kernel_rfl,by kernel_rfl⟩
def cmpI (x y : Int) : Int:=if x < y then -1 else if x > y then 1 else 0
theorem fs_cmp (x y : Int) : FS Tryz.prog 100 [.int .i64 x,.int .i64 y] (.int .i64 (cmpI x y)):=by
  refine fs_of_cvc mixed cd_cmp_Compare_int (by simp) ?_
  repeat' (conv=>whnf); first |(refine Or.inl ⟨by rfl,_,fs_nan _,?_⟩) | refine Br.ff ?_ |(refine Br.dec (fun h=>?_) (fun h=>?_)) <;> try (exfalso; omega) | refine And.intro rfl ?_ | fail
  all_goals (show SV.int .i64 _ = SV.int .i64 _; congr 1; unfold cmpI; (repeat' split) <;> omega)
def ir_spvec_order : IR :=
(.seq (.reg (⟨some 2,.bx (.t 0),none⟩::⟨some 4,.mv (.c (.int .i64 0)),none⟩::[])) (.seq (.reg (⟨some 5,.fa 0 (.t 2),none⟩::⟨some 6,.ld 1 false (.t 5),none⟩::⟨some 7,.mv (.t 1),none⟩::⟨some 8,.call (.c (.fn 100 [])) [(.t 6),(.t 7)],none⟩::⟨some 4,.mv (.t 8),none⟩::[])) .ret))
theorem cd_spvec_order : Code1 Tryz.prog 143 9 ir_spvec_order [.t 4]:=⟨Tryz.call143,_,_,Tryz.func143,rfl,by kernel_rfl,by kernel_rfl,by kernel_rfl,by kernel_rfl⟩
theorem fs_order (a v x : Int) : FS Tryz.prog 143 [.agg [.int .i64 a,.int .i64 v],.int .i64 x] (.int .i64 (cmpI a x)):=by
  refine fs_of_cvc mixed cd_spvec_order (by simp) ?_
  repeat' (conv=>whnf); first |(refine Or.inl ⟨by rfl,_,fs_cmp _ _,?_⟩) | fail
  all_goals exact rfl
def posI (l : List (Int × Int)) (a : Int) : Nat:=l.findIdx fun x=>decide (a <= x.1)
def hasI' (l : List (Int × Int)) (a : Int) : Bool:=l.any fun x=>decide (x.1 = a)
theorem posI_eq {l : List (Int × Int)} {a : Int} {i : Nat} (hi : i <= l.length) (h1 : ∀ (k : Nat) (x : Int × Int),k < i -> l[k]? = some x -> x.1 < a) (h2 : ∀ (k : Nat) (x : Int × Int),i <= k -> l[k]? = some x -> a <= x.1) : posI l a = i:=by
  unfold posI
  rcases Nat.lt_or_ge i l.length with h | h
  . refine (List.findIdx_eq h).2 ⟨?_,fun j hj=>?_⟩
    . have:=h2 i _ (Nat.le_refl _) (List.getElem?_eq_getElem h)
      simpa using this
    . have:=h1 j _ hj (List.getElem?_eq_getElem (by omega))
      simpa using this
  . have hh : i = l.length:=by omega
    subst hh
    rw [List.findIdx_eq_length]
    intro x hx
    obtain ⟨k,hk,rfl⟩:=List.getElem_of_mem hx
    have:=h1 k _ hk (List.getElem?_eq_getElem hk)
    simpa using this
theorem ar_half {x : Int} {K : Int -> Prop} (h0 : 0 <= x) (h1 : x <= 4000000000) (hK : K (x / 2)) : ∃ z',Ar .i64 (x / 2 ^ min (Int.toNat 1) IntKind.u64.bits) z' /\ K z':=by
  have e : (2 : Int) ^ min (Int.toNat 1) IntKind.u64.bits = 2:=by decide
  rw [e]
  exact ⟨_,Or.inl ⟨⟨by omega,by omega⟩,rfl⟩,hK⟩
theorem vhas_at {l : List (Int × Int)} {a : Int} (hu : Up l) {i : Nat} (h1 : ∀ (k : Nat) (x : Int × Int),k < i -> l[k]? = some x -> x.1 < a) (h2 : ∀ (k : Nat) (x : Int × Int),i <= k -> l[k]? = some x -> a <= x.1) : hasI' l a = match l[i]? with
    | some y=>decide (y.1 = a)
    | none=>false:=by
  rw [Bool.eq_iff_iff]
  unfold hasI'
  rw [List.any_eq_true]
  constructor
  . rintro ⟨x,hx,he⟩
    obtain ⟨k,hk⟩:=List.mem_iff_getElem?.1 hx
    simp at he
    have hik : i <= k:=by
      rcases Nat.lt_or_ge k i with h | h
      . have:=h1 k x h hk; omega
      . exact h
    rcases Nat.eq_or_lt_of_le hik with h | h
    . subst h; rw [hk]; simpa using he
    . have hi : i < l.length:=by have:=(List.getElem?_eq_some_iff.1 hk).1; omega
      have h3:=hu.lt (List.getElem?_eq_getElem hi) hk h
      have h4:=h2 i _ (Nat.le_refl _) (List.getElem?_eq_getElem hi)
      omega
  . intro h
    split at h
    . rename_i y hy
      exact ⟨y,List.mem_of_getElem? hy,h⟩
    . cases h
def ir_slices_BinarySearchFunc_api_Item_api_Item_int : IR :=
(.seq (.reg (⟨some 6,.mv (.c (.int .i64 0)),none⟩::⟨some 7,.mv (.c (.bool false)),none⟩::[])) (.seq (.reg (⟨some 12,.mv (.t 0),none⟩::⟨some 13,.ln (.t 12),none⟩::⟨some 8,.mv (.t 13),none⟩::[])) (.seq (.reg (⟨some 14,.mv (.t 8),none⟩::⟨some 9,.mv (.c (.int .i64 0)),none⟩::⟨some 10,.mv (.t 14),none⟩::[])) (.seq (.block 0 (.loop (.seq (.seq (.reg (⟨some 15,.mv (.t 9),none⟩::⟨some 16,.mv (.t 10),none⟩::⟨some 17,.bin .lss (.t 15) (.t 16),none⟩::[])) (.cond (.t 17) .skip (.exit 0))) (.block 1 (.seq (.reg (⟨some 18,.mv (.t 9),none⟩::⟨some 19,.mv (.t 10),none⟩::⟨some 20,.bin .add (.t 18) (.t 19),none⟩::⟨some 21,.cv .u64 (.t 20),none⟩::⟨some 22,.bin .shr (.t 21) (.c (.int .u64 1)),none⟩::⟨some 23,.cv .i64 (.t 22),none⟩::⟨some 11,.mv (.t 23),none⟩::[])) (.seq (.reg (⟨some 24,.mv (.t 2),none⟩::⟨some 25,.mv (.t 0),none⟩::⟨some 26,.mv (.t 11),none⟩::⟨some 27,.ia 2 (.t 25) (.t 26),none⟩::⟨some 28,.ld 2 true (.t 27),none⟩::⟨some 29,.mv (.t 1),none⟩::⟨some 30,.call (.t 24) [(.t 28),(.t 29)],none⟩::⟨some 31,.bin .lss (.t 30) (.c (.int .i64 0)),none⟩::[])) (.cond (.t 31) (.reg (⟨some 32,.mv (.t 11),none⟩::⟨some 33,.bin .add (.t 32) (.c (.int .i64 1)),none⟩::⟨some 9,.mv (.t 33),none⟩::[])) (.reg (⟨some 34,.mv (.t 11),none⟩::⟨some 10,.mv (.t 34),none⟩::[]))))))))) (.seq (.reg (⟨some 35,.mv (.t 9),none⟩::⟨some 36,.mv (.t 9),none⟩::⟨some 37,.mv (.t 8),none⟩::⟨some 38,.bin .lss (.t 36) (.t 37),none⟩::⟨some 39,.mv (.t 38),none⟩::⟨some 40,.mv (.t 2),some (39,true)⟩::⟨some 41,.mv (.t 0),some (39,true)⟩::⟨some 42,.mv (.t 9),some (39,true)⟩::⟨some 43,.ia 2 (.t 41) (.t 42),some (39,true)⟩::⟨some 44,.ld 2 true (.t 43),some (39,true)⟩::⟨some 45,.mv (.t 1),some (39,true)⟩::⟨some 46,.call (.t 40) [(.t 44),(.t 45)],some (39,true)⟩::⟨some 47,.bin .eql (.t 46) (.c (.int .i64 0)),some (39,true)⟩::⟨some 48,.pick (.t 39) (.t 47) (.c (.bool false)),none⟩::⟨some 6,.mv (.t 35),none⟩::⟨some 7,.mv (.t 48),none⟩::[])) .ret)))))
theorem cd_slices_BinarySearchFunc_api_Item_api_Item_int : Code1 Tryz.prog 142 49 ir_slices_BinarySearchFunc_api_Item_api_Item_int [.t 6,.t 7]:=⟨Tryz.call142,_,_,Tryz.func142,rfl,by kernel_rfl,by kernel_rfl,by kernel_rfl,by kernel_rfl⟩
theorem fs_search (l : List (Int × Int)) (a : Int) (hl : l.length <= 1000000000) (hu : Up l) : FS Tryz.prog 142 [IL l,.int .i64 a,.fn 143 []] (.tup [.int .i64 (posI l a : Nat),.bool (hasI' l a)]):=by
  refine fs_of_cvc mixed cd_slices_BinarySearchFunc_api_Item_api_Item_int (by simp) ?_
  refine ⟨Nat × Nat,fun ⟨i,j⟩=>i <= j /\ j <= l.length /\ (∀ (k : Nat) (x : Int × Int),k < i -> l[k]? = some x -> x.1 < a) /\ (∀ (k : Nat) (x : Int × Int),j <= k -> l[k]? = some x -> a <= x.1),fun ⟨i,j⟩=>[(0,IL l),(1,.int .i64 a),(2,.fn 143 []),(8,.int .i64 (l.length : Int)),(9,.int .i64 (i : Int)),(10,.int .i64 (j : Int))],fun _=>[],fun _=>none,fun ⟨i,j⟩=>j - i,⟨(0,l.length),⟨Nat.zero_le _,Nat.le_refl _,fun k x h=>absurd h (by omega),fun k x h hk=>?_⟩,⟨rfl,rfl,rfl,?_,rfl,?_,trivial⟩,trivial,rfl⟩,fun ⟨i,j⟩ hk=>?_⟩
  . have:=(List.getElem?_eq_some_iff.1 hk).1; omega
  . show SV.int .i64 _ = SV.int .i64 _; rw [its_len]
  . show SV.int .i64 _ = SV.int .i64 _; rw [its_len]
  obtain ⟨h1,h2,h3,h4⟩:=hk
  repeat' (conv=>whnf); first |(refine Or.inl ⟨by rfl,_,fs_order _ _ _,?_⟩) |(refine ar_half (by omega) (by omega) ?_) |((refine fun x hx=>?_); (obtain ⟨y,hy,rfl⟩:=its_get hx; clear hx)) | refine Br.tt ?_ | refine Br.ff ?_ |(refine Br.dec (fun h=>?_) (fun h=>?_)) <;> try (exfalso; omega) | refine And.intro rfl ?_ |(refine And.intro (by omega) ?_) |(refine ⟨_,Or.inl ⟨⟨by omega,by omega⟩,rfl⟩,?_⟩) |(refine And.intro (by simp only [lens_all,its_len]; first | done | omega) ?_) | fail
  . rename_i hij
    have hm : (((i : Int) + j) / 2).toNat = (i + j) / 2:=by omega
    rw [hm] at hy
    refine ⟨((i + j) / 2 + 1,j),⟨by omega,h2,fun k x hk hx=>?_,h4⟩,(show j - ((i + j) / 2 + 1) < j - i by omega),⟨rfl,rfl,rfl,rfl,?_,rfl,trivial⟩,trivial,rfl⟩
    . have hy1 : y.1 < a:=by unfold cmpI at h; split at h <;> (try split at h) <;> omega
      rcases Nat.lt_or_ge k ((i + j) / 2) with h' | h'
      . have:=hu.lt hx hy h'; omega
      . have : k = (i + j) / 2:=by omega
        subst this; rw [hx] at hy; cases hy; exact hy1
    . show SV.int .i64 _ = SV.int .i64 _
      congr 1
  . rename_i hij
    have hm : (((i : Int) + j) / 2).toNat = (i + j) / 2:=by omega
    rw [hm] at hy
    refine ⟨(i,(i + j) / 2),⟨by omega,by omega,h3,fun k x hk hx=>?_⟩,(show (i + j) / 2 - i < j - i by omega),⟨rfl,rfl,rfl,rfl,rfl,?_,trivial⟩,trivial,rfl⟩
    . have hy1 : a <= y.1:=by unfold cmpI at h; split at h <;> (try split at h) <;> omega
      rcases Nat.lt_or_ge ((i + j) / 2) k with h' | h'
      . have:=hu.lt hy hx h'; omega
      . have : k = (i + j) / 2:=by omega
        subst this; rw [hx] at hy; cases hy; exact hy1
    . show SV.int .i64 _ = SV.int .i64 _
      congr 1
  all_goals
    have hij : i = j:=by omega
    subst hij
    have hp:=posI_eq h2 h3 h4
    have hh:=vhas_at hu h3 h4
  . have hy' : l[i]? = some y:=hy
    rw [hy'] at hh
    have e : decide (cmpI y.1 a = 0) = decide (y.1 = a):=by
      rw [decide_eq_decide]; unfold cmpI
      split <;> (try split) <;> omega
    show SV.tup [SV.int .i64 _,SV.bool (decide (cmpI y.1 a = 0))] = SV.tup [SV.int .i64 _,SV.bool _]
    rw [hp,hh,e]
  . have hn : l[i]? = none:=List.getElem?_eq_none (by omega)
    rw [hn] at hh
    show SV.tup [SV.int .i64 _,SV.bool _] = SV.tup [SV.int .i64 _,SV.bool _]
    rw [hp,hh]
def ir_spvec_find : IR :=
(.seq (.reg (⟨some 2,.bx (.t 0),none⟩::⟨some 4,.mv (.c (.int .i64 0)),none⟩::⟨some 5,.mv (.c (.bool false)),none⟩::[])) (.seq (.reg (⟨some 6,.fa 1 (.t 2),none⟩::⟨some 7,.ld 1 false (.t 6),none⟩::⟨some 8,.mv (.t 1),none⟩::⟨some 9,.call (.c (.fn 142 [])) [(.t 7),(.t 8),(.c (.fn 143 []))],none⟩::⟨some 10,.ex 0 (.t 9),none⟩::⟨some 11,.ex 1 (.t 9),none⟩::⟨some 4,.mv (.t 10),none⟩::⟨some 5,.mv (.t 11),none⟩::[])) .ret))
theorem cd_spvec_find : Code1 Tryz.prog 110 12 ir_spvec_find [.t 4,.t 5]:=⟨Tryz.call110,_,_,Tryz.func110,rfl,by kernel_rfl,by kernel_rfl,by kernel_rfl,by kernel_rfl⟩
theorem fs_find (n : Int) (l : List (Int × Int)) (a : Int) (hl : l.length <= 1000000000) (hu : Up l) : FS Tryz.prog 110 [VC n l,.int .i64 a] (.tup [.int .i64 (posI l a : Nat),.bool (hasI' l a)]):=by
  refine fs_of_cvc mixed cd_spvec_find (by simp) ?_
  repeat' (conv=>whnf); first |(refine Or.inl ⟨by rfl,_,fs_search l a hl hu,?_⟩) | fail
  all_goals exact rfl
end
section
open Go.RowKit
attribute [local irreducible] FS FO IT HS
theorem sl_len (n : Int) (l : List (Int × Int)) : (sl n l).length <= l.length:=by unfold sl; split <;> simp
theorem its_scal (l : List (Int × Int)) : ∀ y ∈ its l,scalarL y = true:=by
  intro y hy
  obtain ⟨v,_,rfl⟩:=List.mem_map.1 hy
  rfl
def ir_slices_Clone_api_Item_api_Item : IR :=
(.seq (.reg (⟨some 2,.mv (.c (.nils)),none⟩::[])) (.seq (.seq (.reg (⟨some 3,.mv (.t 0),none⟩::⟨some 4,.isn false (.t 3),none⟩::[])) (.cond (.t 4) (.seq (.reg (⟨some 2,.mv (.c (.nils)),none⟩::[])) .ret) .skip)) (.seq (.reg (⟨some 5,.bsl 0 2 [.int .i64 0,.int .i64 0] [],none⟩::⟨some 6,.mv (.t 0),none⟩::⟨some 7,.ap 2 16 (.t 5) (.t 6),none⟩::⟨some 2,.mv (.t 7),none⟩::[])) .ret)))
theorem cd_slices_Clone_api_Item_api_Item : Code1 Tryz.prog 37 8 ir_slices_Clone_api_Item_api_Item [.t 2]:=⟨Tryz.call37,_,_,Tryz.func37,rfl,by kernel_rfl,by kernel_rfl,by kernel_rfl,by kernel_rfl⟩
theorem fo_vClone (l : List (Int × Int)) (hl : l.length <= 1000000000) : FO Tryz.prog 37 [IL l] (.osl 0 2 0 l.length) [.arr 2 (its l)]:=by
  refine fo_of_cvc mixed cd_slices_Clone_api_Item_api_Item (by simp) ?_
  have go : ∀ (H : List Blk),H = [] -> FoP (H ++ [.arr 2 (its l)]) (.osl H.length 2 0 (its l).length) (.osl 0 2 0 l.length) [.arr 2 (its l)]:=by
    rintro _ rfl
    refine Or.inl ⟨[0],?_,rfl,by simp,rfl,rfl⟩
    show SV.osl 0 2 0 l.length = SV.osl 0 2 0 (its l).length
    rw [its_len]
  have hlen:=its_len l
  refine ⟨fun h=>?_,fun h=>?_⟩
  . refine Br.ff ?_
    refine ⟨rfl,rfl,by omega,by omega,its_scal l,?_⟩
    exact go [] rfl
  . refine ⟨?_,?_⟩
    . have hw : l = []:=by simpa [its] using h
      subst hw
      exact Or.inr (Or.inl ⟨rfl,2,rfl,rfl⟩)
    . refine ⟨rfl,rfl,by omega,by omega,its_scal l,?_⟩
      exact go [] rfl
end
section
open Go.RowKit
attribute [local irreducible] FS FO IT HS
theorem its_set (m : List (Int × Int)) (i : Nat) (a b : Int) : (its m).set i [.int .i64 a,.int .i64 b] = its (m.set i (a,b)):=by simp [its,List.map_set]
theorem its_append (l m : List (Int × Int)) : its (l ++ m) = its l ++ its m:=by simp [its]
def rest (p : Int × Int -> Bool) (l : List (Int × Int)) : List (Int × Int):=l.filter fun x=>!p x
end
section
open Go.RowKit
attribute [local irreducible] FS FO IT HS
theorem its_loose (l : List (Int × Int)) : Blk.loose (.arr 2 (its l)):=by
  intro x hx
  obtain ⟨v,_,rfl⟩:=List.mem_map.1 hx
  rfl
end
section
open Go.RowKit
attribute [local irreducible] FS FO IT HS
end
section
open Go.RowKit
attribute [local irreducible] FS FO IT HS
end
section
open Go.RowKit
attribute [local irreducible] FS FO IT HS
theorem I0 : I64 0:=by unfold I64; omega
theorem frz_its (l : List (Int × Int)) : List.take l.length (List.drop 0 (its l)) = its l:=by
  rw [List.drop_zero,<- its_len,List.take_length]
end
section
open Go.RowKit
attribute [local irreducible] FS FO IT HS
def gt (l : List (Int × Int)) (at' : Int) : Option Int:=(l.find? fun x=>decide (x.1 = at')).map (·.2)
theorem gt_nil (k : Int) : gt [] k = none:=rfl
theorem gt_cons (x : Int × Int) (l : List (Int × Int)) (k : Int) : gt (x::l) k = if x.1 = k then some x.2 else gt l k:=by
  unfold gt
  rw [List.find?_cons]
  by_cases h : x.1 = k <;> simp [h]
theorem Up.tail {x : Int × Int} {l : List (Int × Int)} (h : Up (x::l)) : Up l:=(List.pairwise_cons.1 h).2
theorem Up.head {x : Int × Int} {l : List (Int × Int)} (h : Up (x::l)) : ∀ y ∈ l,x.1 < y.1:=(List.pairwise_cons.1 h).1
theorem gt_none {l : List (Int × Int)} {k : Int} (h : ∀ x ∈ l,x.1 ≠ k) : gt l k = none:=by
  unfold gt
  rw [Option.map_eq_none_iff,List.find?_eq_none]
  intro x hx; simpa using h x hx
theorem gt_lt {l : List (Int × Int)} {k : Int} (h : ∀ x ∈ l,k < x.1) : gt l k = none:=gt_none fun x hx=>by have:=h x hx; omega
theorem gt_some {l : List (Int × Int)} (hu : Up l) {x : Int × Int} (hx : x ∈ l) : gt l x.1 = some x.2:=by
  induction l with
  | nil=>simp at hx
  | cons y l ih =>
    rw [gt_cons]
    rcases List.mem_cons.1 hx with rfl | hx
    . simp
    . have:=hu.head x hx
      rw [if_neg (by omega)]; exact ih hu.tail hx
theorem gt_mem {l : List (Int × Int)} {k v : Int} (h : gt l k = some v) : (k,v) ∈ l:=by
  unfold gt at h
  obtain ⟨x,hx,rfl⟩:=Option.map_eq_some_iff.1 h
  have h1:=List.find?_some hx
  simp at h1
  subst h1
  exact List.mem_of_find?_eq_some hx
theorem up_ext {l m : List (Int × Int)} (hl : Up l) (hm : Up m) (h : ∀ k,gt l k = gt m k) : l = m:=by
  induction l generalizing m with
  | nil =>
    cases m with
    | nil=>rfl
    | cons y m =>
      have:=h y.1
      rw [gt_nil,gt_cons,if_pos rfl] at this
      cases this
  | cons x l ih =>
    cases m with
    | nil =>
      have:=h x.1
      rw [gt_nil,gt_cons,if_pos rfl] at this
      cases this
    | cons y m =>
      have hxy : x.1 = y.1:=by
        rcases Int.lt_trichotomy x.1 y.1 with h' | h' | h'
        . have:=h x.1
          rw [gt_cons,if_pos rfl,gt_cons,if_neg (by omega),gt_lt fun z hz=>by have:=hm.head z hz; omega] at this
          cases this
        . exact h'
        . have:=h y.1
          rw [gt_cons,if_neg (by omega),gt_cons,if_pos rfl,gt_lt fun z hz=>by have:=hl.head z hz; omega] at this
          cases this
      have hv : x.2 = y.2:=by
        have:=h x.1
        rw [gt_cons,if_pos rfl,gt_cons,if_pos hxy.symm] at this
        exact Option.some.inj this
      have ht : l = m:=ih hl.tail hm.tail fun k=>by
        have:=h k
        rw [gt_cons,gt_cons,hxy] at this
        by_cases hk : y.1 = k
        . subst hk
          rw [gt_lt fun z hz=>by have:=hl.head z hz; omega,gt_lt fun z hz=>by have:=hm.head z hz; omega]
        . rwa [if_neg hk,if_neg hk] at this
      rw [ht,show x = y from Prod.ext hxy hv]
end
end Go.Proofs.YtelbhbadkbcakaaGreat
