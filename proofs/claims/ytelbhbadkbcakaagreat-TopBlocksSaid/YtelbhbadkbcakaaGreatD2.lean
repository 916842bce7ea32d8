/- Dense vectors: with a value, without, at some places, and parts: what that comes to (plain laws). Dense vectors: Set, Drop, Only, Part, Of, Back. Dense vectors: of items, and back; parts. -/
import Derived.Test.YtelbhbadkbcakaaGreatD1
namespace Go.Proofs.YtelbhbadkbcakaaGreat
section
open Go.RowKit
attribute [local irreducible] FS FO IT HS
def dV (n : Int) (l : List (Int × Int)) : SV:=DV n (toF n l) (toL n l)
theorem getD_set {v : List Int} {i j : Nat} {x : Int} (h : i < v.length) : (v.set i x).getD j 0 = if j = i then x else v.getD j 0:=by
  rw [List.getD_eq_getElem?_getD,List.getElem?_set]
  by_cases e : i = j
  . subst e; rw [if_pos rfl,if_pos rfl,if_pos h]; rfl
  . rw [if_neg e,if_neg (fun h=>e h.symm),List.getD_eq_getElem?_getD]
def ptI (a b : Int) (l : List (Int × Int)) : List (Int × Int):=(l.filter fun x=>decide (a <= x.1) && decide (x.1 < b)).map fun x=>(x.1 - a,x.2)
theorem up_ptI {a b : Int} {l : List (Int × Int)} (h : Up l) : Up (ptI a b l):=by
  refine List.pairwise_map.2 ((h.filter _).imp fun {x y} h=>?_)
  show x.1 - a < y.1 - a
  omega
theorem okV_ptI {n a b : Int} {l : List (Int × Int)} (h : OkV n l) (h0 : 0 <= a) (hb : b <= n) (hab : a <= b) : OkV (b - a) (ptI a b l):=by
  have:=h.n1
  refine ⟨by omega,by omega,up_ptI h.up,fun x hx=>?_⟩
  obtain ⟨y,hy,rfl⟩:=List.mem_map.1 hx
  have h2:=(List.mem_filter.1 hy).2
  rw [Bool.and_eq_true,decide_eq_true_eq,decide_eq_true_eq] at h2
  show 0 <= y.1 - a /\ y.1 - a < b - a
  omega
theorem gt_ptI {a b : Int} {l : List (Int × Int)} (h : Up l) (k : Int) : gt (ptI a b l) k = if 0 <= k /\ k < b - a then gt l (a + k) else none:=by
  by_cases hk : 0 <= k /\ k < b - a
  . rw [if_pos hk]
    cases hg : gt l (a + k) with
    | none =>
      refine gt_none fun x hx e=>?_
      obtain ⟨y,hy,rfl⟩:=List.mem_map.1 hx
      have hm:=(List.mem_filter.1 hy).1
      have:=gt_some h hm
      simp only at e
      rw [show y.1 = a + k by omega,hg] at this
      cases this
    | some v =>
      have hm:=gt_mem hg
      refine (gt_some (up_ptI h) (x:=(k,v)) (List.mem_map.2 ⟨(a + k,v),List.mem_filter.2 ⟨hm,?_⟩,?_⟩))
      . simp only [Bool.and_eq_true,decide_eq_true_eq]; omega
      . show (a + k - a,v) = (k,v)
        rw [show a + k - a = k by omega]
  . rw [if_neg hk]
    refine gt_none fun x hx e=>hk ?_
    obtain ⟨y,hy,rfl⟩:=List.mem_map.1 hx
    have h2:=(List.mem_filter.1 hy).2
    rw [Bool.and_eq_true,decide_eq_true_eq,decide_eq_true_eq] at h2
    simp only at e
    omega
end
section
open Go.RowKit
attribute [local irreducible] FS FO IT HS
theorem zs_one {l : List Int} {q i : Nat} (hq : q = i) (h : i < l.length) : (zs l)[q]? = some [.int .i64 (l.getD i 0)]:=by
  subst hq
  simp [zs,h]
theorem zs_set (m : List Int) (i : Nat) (a : Int) : (zs m).set i [.int .i64 a] = zs (m.set i a):=by simp [zs,List.map_set]
theorem frz_zl {k : Nat} {m : List Int} (h : k = m.length) : List.take k (List.drop 0 (zs m)) = zs m:=by
  rw [List.drop_zero,List.take_of_length_le (by rw [zs_len]; omega)]
end
section
open Go.RowKit
attribute [local irreducible] FS FO IT HS
/-! ### One value after the other -/
def bAt (f : List Nat) (k : Nat) : Int:=match (bits f)[k]? with
  | some b=>b
  | none=>-1
theorem next_from {f : List Nat} (_hw : Wd f) {k : Nat} {p : Int} (h1 : ∀ (j x : Nat),j < k -> (bits f)[j]? = some x -> (x : Int) < p) (h2 : ∀ (j x : Nat),k <= j -> (bits f)[j]? = some x -> p <= (x : Int)) : nextI f p = bAt f k:=by
  unfold nextI bAt
  cases hk : (bits f)[k]? with
  | some b =>
    have hs : (bits f).find? (fun (b : Nat)=>decide (p <= (b : Int))) = some b:=by
      rw [List.find?_eq_some_iff_getElem]
      obtain ⟨hl,he⟩:=List.getElem?_eq_some_iff.1 hk
      refine ⟨by simpa using h2 k b (Nat.le_refl _) hk,k,hl,he,fun j hj=>?_⟩
      have:=h1 j _ hj (List.getElem?_eq_getElem (by omega))
      simp; omega
    rw [hs]
  | none =>
    have hs : (bits f).find? (fun (b : Nat)=>decide (p <= (b : Int))) = none:=by
      rw [List.find?_eq_none]
      intro x hx
      obtain ⟨j,hj⟩:=List.mem_iff_getElem?.1 hx
      have hjl:=(List.getElem?_eq_some_iff.1 hj).1
      have hkl : (bits f).length <= k:=by simpa using hk
      have:=h1 j x (by omega) hj
      simp; omega
    rw [hs]
theorem bits_lt {f : List Nat} (hw : Wd f) {i j n m : Nat} (hij : i < j) (hn : (bits f)[i]? = some n) (hm : (bits f)[j]? = some m) : n < m:=by
  obtain ⟨h1,rfl⟩:=List.getElem?_eq_some_iff.1 hn
  obtain ⟨h2,rfl⟩:=List.getElem?_eq_some_iff.1 hm
  exact List.pairwise_iff_getElem.1 (bits_sorted hw) i j h1 h2 hij
theorem next_zero {f : List Nat} (hw : Wd f) : nextI f 0 = bAt f 0:=next_from hw (fun j x h=>by omega) fun j x _ _=>by omega
theorem next_succ {f : List Nat} (hw : Wd f) {k b : Nat} (h : (bits f)[k]? = some b) : nextI f ((b : Int) + 1) = bAt f (k + 1) :=
  next_from hw (fun j x hj hx=>by
    rcases Nat.lt_or_ge j k with h' | h'
    . have:=bits_lt hw h' hx h; omega
    . have : j = k:=by omega
      subst this; rw [h] at hx; cases hx; omega) fun j x hj hx=>by
    have:=bits_lt hw (show k < j by omega) h hx; omega
def ir_devec_all_1 : IR :=
(.seq (.reg (⟨some 4,.fa 1 (.t 1),none⟩::⟨some 5,.ld 1 false (.t 4),none⟩::⟨some 6,.call (.c (.fn 125 [])) [(.t 5),(.c (.int .i64 0))],none⟩::⟨some 3,.mv (.t 6),none⟩::[])) (.block 0 (.loop (.seq (.seq (.reg (⟨some 7,.mv (.t 3),none⟩::⟨some 8,.bin .geq (.t 7) (.c (.int .i64 0)),none⟩::[])) (.cond (.t 8) .skip (.exit 0))) (.seq (.block 1 (.seq (.reg (⟨some 14,.mv (.t 0),none⟩::⟨some 15,.mv (.t 3),none⟩::⟨some 16,.fa 2 (.t 1),none⟩::⟨some 17,.ld 1 false (.t 16),none⟩::⟨some 18,.mv (.t 3),none⟩::⟨some 19,.ia 1 (.t 17) (.t 18),none⟩::⟨some 20,.ld 1 false (.t 19),none⟩::⟨some 21,.call (.t 14) [(.t 15),(.t 20)],none⟩::⟨some 22,.un .not (.t 21),none⟩::[])) (.cond (.t 22) .ret .skip))) (.reg (⟨some 9,.fa 1 (.t 1),none⟩::⟨some 10,.ld 1 false (.t 9),none⟩::⟨some 11,.mv (.t 3),none⟩::⟨some 12,.bin .add (.t 11) (.c (.int .i64 1)),none⟩::⟨some 13,.call (.c (.fn 125 [])) [(.t 10),(.t 12)],none⟩::⟨some 3,.mv (.t 13),none⟩::[])))))))
theorem cd_devec_all_1 : Code1 Tryz.prog 124 23 ir_devec_all_1 []:=⟨Tryz.call124,_,_,Tryz.func124,rfl,by kernel_rfl,by kernel_rfl,by kernel_rfl,by kernel_rfl⟩
set_option maxHeartbeats 2000000 in
theorem it_dall (n : Int) (f : List Nat) (v : List Int) (h : OkD n f v) : IT Tryz.prog 124 [.box [.int .i64 n,U f,Z v] 0] [] (its (bkL f v)):=by
  refine it_of_cvc mixed cd_devec_all_1 (ks:=[]) (by simp) fun l=>?_
  have hfl:=h.len
  have hzl:=zs_len v
  have hvl:=h.vl
  have hn1:=h.n1
  have hbl : (its (bkL f v)).length = (bits f).length:=by rw [its_len]; simp [bkL]
  have c0:=fs_Next f h.wd (by omega) 0
  rw [next_zero h.wd] at c0
  repeat' (conv=>whnf); first |(refine Or.inl ⟨by rfl,_,c0,?_⟩) | fail
  refine ⟨Nat × Int,fun ⟨k,a⟩=>k <= (bits f).length /\ a = bAt f k,fun ⟨k,a⟩=>[(0,.raw (.func (.yield l) #[] #[])),(1,.box [.int .i64 n,U f,Z v] 0),(3,.int .i64 a)],fun _=>[],fun ⟨k,a⟩=>some k,fun ⟨k,a⟩=>(bits f).length - k,
    ⟨(0,bAt f 0),⟨Nat.zero_le _,rfl⟩,⟨rfl,rfl,rfl,trivial⟩,trivial,rfl⟩,fun ⟨k,a⟩ hk=>?_⟩
  obtain ⟨hk,ha⟩:=hk
  by_cases hkl : k < (bits f).length
  . obtain ⟨b,hb⟩ : ∃ b,(bits f)[k]? = some b:=⟨_,List.getElem?_eq_getElem hkl⟩
    have eb : bAt f k = (b : Int):=by unfold bAt; rw [hb]
    have hbn:=h.top b ((bits_mem h.wd).1 (List.mem_of_getElem? hb)).2
    have hget : (its (bkL f v))[k]? = some [.int .i64 (b : Int),.int .i64 (v.getD b 0)]:=by simp [its,bkL,hb]
    have c1:=fs_Next f h.wd (by omega) ((b : Int) + 1)
    rw [next_succ h.wd hb] at c1
    rw [eb] at ha
    subst ha
    repeat' (conv=>whnf); first |(refine ⟨k,rfl,hget,?_,?_⟩) |(refine zs_go (i:=b) (by omega) rfl ?_) |(refine Or.inl ⟨by rfl,_,c1,?_⟩) | refine Br.tt ?_ | refine Br.ff ?_ | refine And.intro rfl ?_ |(refine And.intro (by omega) ?_) |(refine ⟨_,Or.inl ⟨⟨by omega,by omega⟩,rfl⟩,?_⟩) | fail
    . exact ⟨(k + 1,bAt f (k + 1)),⟨by omega,rfl⟩,(show (bits f).length - (k + 1) < (bits f).length - k by omega),⟨rfl,rfl,rfl,trivial⟩,trivial,rfl⟩
    . exact Or.inr rfl
  . have eb : bAt f k = -1:=by unfold bAt; rw [List.getElem?_eq_none (by omega)]
    rw [eb] at ha
    subst ha
    repeat' (conv=>whnf); first | refine Br.ff ?_ | refine And.intro rfl ?_ | fail
    refine Or.inl ?_
    show some k = some _
    rw [hbl,show k = (bits f).length by omega]
def ir_devec_all : IR :=
(.seq (.reg (⟨some 1,.bx (.t 0),none⟩::⟨some 2,.mv (.c (.raw .nilFunc)),none⟩::[])) (.seq (.reg (⟨some 3,.fn 124 [(.t 1)],none⟩::⟨some 2,.mv (.t 3),none⟩::[])) .ret))
theorem cd_devec_all : Code1 Tryz.prog 93 4 ir_devec_all [.t 2]:=⟨Tryz.call93,_,_,Tryz.func93,rfl,by kernel_rfl,by kernel_rfl,by kernel_rfl,by kernel_rfl⟩
theorem fs_dall (n : Int) (f : List Nat) (v : List Int) : FS Tryz.prog 93 [DV n f v] (.fn 124 [.box [.int .i64 n,U f,Z v] 0]):=by
  refine fs_of_cvc mixed cd_devec_all (by simp) ?_
  repeat' (conv=>whnf); first | fail
  exact rfl
theorem vtk_more {l : List (Int × Int)} {k : Nat} {x : Int × Int} (h : l[k]? = some x) : l.take (k + 1) = l.take k ++ [x]:=by
  rw [List.take_add_one,h]; rfl
def ir_devec_Back : IR :=
(.seq (.reg (⟨some 1,.bx (.t 0),none⟩::⟨some 2,.al [.int .i64 0,.nils],none⟩::[])) (.seq (.reg (⟨some 6,.ld 3 true (.t 1),none⟩::⟨some 7,.call (.c (.fn 92 [])) [(.t 6)],none⟩::⟨none,.st 3 (.t 1) (.t 7),none⟩::[])) (.seq (.reg (⟨some 8,.fa 0 (.t 1),none⟩::⟨some 9,.ld 1 false (.t 8),none⟩::⟨some 10,.bld [.int .i64 0,.nils] [(0,1,(.t 9))],none⟩::⟨some 3,.al [.int .i64 0,.nils],none⟩::⟨none,.st 2 (.t 3) (.t 10),none⟩::[])) (.seq (.seq (.reg (⟨some 11,.ld 3 true (.t 1),none⟩::⟨some 12,.call (.c (.fn 93 [])) [(.t 11)],none⟩::[])) (.block 0 (.rng (.t 12) [13,14] (.seq (.reg (⟨some 4,.mv (.t 13),none⟩::[])) (.reg (⟨some 5,.mv (.t 14),none⟩::[]))) (.block 1 (.reg (⟨some 15,.fa 1 (.t 3),none⟩::⟨some 16,.ld 1 false (.t 15),none⟩::⟨some 17,.mv (.t 4),none⟩::⟨some 18,.mv (.t 5),none⟩::⟨some 19,.bld [.int .i64 0,.int .i64 0] [(0,1,(.t 17)),(1,1,(.t 18))],none⟩::⟨some 20,.bsl 1 2 [.int .i64 0,.int .i64 0] [(0,(.t 19))],none⟩::⟨some 21,.ap 2 16 (.t 16) (.t 20),none⟩::⟨some 22,.fa 1 (.t 3),none⟩::⟨none,.st 1 (.t 22) (.t 21),none⟩::[])))))) (.seq (.reg (⟨some 23,.ld 2 true (.t 3),none⟩::⟨none,.st 2 (.t 2) (.t 23),none⟩::[])) .ret)))))
theorem cd_devec_Back : Code1 Tryz.prog 64 24 ir_devec_Back [.c 2 true 2]:=⟨Tryz.call64,_,_,Tryz.func64,rfl,by kernel_rfl,by kernel_rfl,by kernel_rfl,by kernel_rfl⟩
set_option maxHeartbeats 2000000 in
theorem fs_dBack (n : Int) (f : List Nat) (v : List Int) (hn : I64 n) (hw : Wd f) (hf : f.length <= 1000000) (hv : v.length <= 1000000) : FS Tryz.prog 64 [DV n f v] (VC (dS n f v).1 (bkL (dS n f v).2.1 (dS n f v).2.2)):=by
  refine fs_of_cvc mixed cd_devec_Back (by simp) ?_
  have c1:=fs_dsure n f v hn hw hf hv
  have hok:=okD_dS n v hw
  generalize (dS n f v).1 = N at *
  generalize (dS n f v).2.1 = F at *
  generalize (dS n f v).2.2 = V at *
  have c2:=fs_dall N F V
  have hbl : (bkL F V).length <= 4096:=(okV_bkL hok).le
  have hil:=its_len (bkL F V)
  repeat' (conv=>whnf); first |(refine Or.inl ⟨by rfl,_,c1,?_⟩) |(refine Or.inl ⟨by rfl,_,c2,?_⟩) |(refine And.intro (show _ <= _ from Nat.le_of_ble_eq_true rfl) ?_) | refine And.intro rfl ?_ | fail
  refine ⟨[],[],[.box [.int .i64 N,U F,Z V] 0],[],its (bkL F V),fun i=>[.vars [.int .i64 N,U F,Z V],.vars [.int .i64 0,.nils],.vars [.int .i64 N,.osl 3 2 0 i],.arr 2 (its ((bkL F V).take i))],fun i=>i <= (bkL F V).length,it_dall N F V hok,rfl,rfl,rfl,rfl,List.nodup_nil,by simp,⟨⟨rfl,rfl,rfl,trivial⟩,⟨rfl,rfl,trivial⟩,⟨rfl,⟨Nat.le_refl _,rfl,rfl⟩,trivial⟩,rfl,trivial⟩,Nat.zero_le _,fun i x hx hi=>?_,fun hi=>?_⟩
  . obtain ⟨y,hy,rfl⟩:=its_get hx
    have hil2:=(List.getElem?_eq_some_iff.1 hy).1
    have htl : (its ((bkL F V).take i)).length = i:=by rw [its_len,List.length_take]; omega
    refine ⟨rfl,?_⟩
    repeat' (conv=>whnf); first |(refine And.intro (show _ <= _ from Nat.le_of_ble_eq_true rfl) ?_) |((refine And.intro (by intro y hy; simp at hy; subst hy; rfl) ?_)) | refine And.intro rfl ?_ |(refine And.intro (by omega) ?_) |(refine And.intro (by simp only [lens_all]; first | done | omega) ?_) | fail
    refine ⟨⟨rfl,rfl,rfl,trivial⟩,⟨rfl,rfl,trivial⟩,⟨rfl,rfl,trivial⟩,?_,trivial⟩
    rw [vtk_more hy,its_append]; rfl
  . have e : (its (bkL F V)).length = (bkL F V).length:=hil
    repeat' (conv=>whnf); first |(refine And.intro (show _ <= _ from Nat.le_of_ble_eq_true rfl) ?_) | refine And.intro rfl ?_ |(refine And.intro (by simp only [lens_all,its_len]; first | done | omega) ?_) | fail
    conv=>whnf
    have e2 : (bkL F V).take (its (bkL F V)).length = bkL F V:=by rw [e,List.take_length]
    rw [e2,List.drop_zero,List.take_length]
    rfl
/-! ### Of -/
def setsV (v : List Int) (l : List (Int × Int)) : List Int:=l.foldl (fun v x=>v.set x.1.toNat x.2) v
theorem setsV_len (l : List (Int × Int)) : ∀ v : List Int,(setsV v l).length = v.length:=by
  induction l with
  | nil=>intro v; rfl
  | cons x l ih=>intro v; show (setsV (v.set x.1.toNat x.2) l).length = _; rw [ih,List.length_set]
theorem setsV_more {v : List Int} {l : List (Int × Int)} {k : Nat} {x : Int × Int} (h : l[k]? = some x) : setsV v (l.take (k + 1)) = (setsV v (l.take k)).set x.1.toNat x.2:=by
  unfold setsV
  rw [vtk_more h,List.foldl_append]; rfl
theorem setsV_get : ∀ (l : List (Int × Int)) (v : List Int) (i : Nat),Up l -> (∀ x ∈ l,0 <= x.1 /\ x.1 < v.length) -> i < v.length -> (setsV v l).getD i 0 = (gt l (i : Int)).getD (v.getD i 0)
  | [],v,i,_,_,_=>rfl
  | x :: l, v, i, hu, hb, hi => by
    have hx:=hb x (by simp)
    show (setsV (v.set x.1.toNat x.2) l).getD i 0 = _
    rw [setsV_get l _ i hu.tail (fun y hy=>by rw [List.length_set]; exact hb y (by simp [hy])) (by rw [List.length_set]; exact hi),gt_cons,getD_set (by omega)]
    by_cases e : x.1 = (i : Int)
    . rw [if_pos e,if_pos (show i = x.1.toNat by omega)]
      have : gt l (i : Int) = none:=gt_lt fun y hy=>by have:=hu.head y hy; omega
      rw [this]; rfl
    . rw [if_neg e,if_neg (show ¬ i = x.1.toNat by omega)]
theorem setsV_to {n : Int} {l : List (Int × Int)} (h : OkV n l) : setsV (List.replicate n.toNat 0) l = toL n l:=by
  have hl : (setsV (List.replicate n.toNat 0) l).length = n.toNat:=by rw [setsV_len,List.length_replicate]
  unfold toL
  refine tab_ext hl fun i hi=>?_
  have hg:=setsV_get l (List.replicate n.toNat 0) i h.up (fun x hx=>by have:=h.lo x hx; rw [List.length_replicate]; omega) (by rw [List.length_replicate]; exact hi)
  rw [List.getD_eq_getElem?_getD,List.getElem?_eq_getElem (by omega)] at hg
  rw [List.getElem?_eq_getElem (by omega)]
  simp only [Option.getD_some] at hg
  rw [hg]
  simp [List.getD_eq_getElem?_getD,hi]
def ir_spvec_Places : IR :=
(.seq (.reg (⟨some 1,.bx (.t 0),none⟩::⟨some 2,.mv (.c (.nils)),none⟩::[])) (.seq (.reg (⟨some 3,.mv (.c (.nils)),none⟩::[])) (.seq (.seq (.reg (⟨some 6,.ld 2 true (.t 1),none⟩::⟨some 7,.call (.c (.fn 91 [])) [(.t 6)],none⟩::⟨some 8,.fd 1 1 false (.t 7),none⟩::⟨some 9,.ln (.t 8),none⟩::⟨some 10,.mv (.c (.int .i64 0)),none⟩::[])) (.block 0 (.loop (.seq (.reg (⟨some 11,.bin .lss (.t 10) (.t 9),none⟩::[])) (.seq (.cond (.t 11) .skip (.exit 0)) (.seq (.block 1 (.seq (.reg (⟨some 12,.ia 2 (.t 8) (.t 10),none⟩::⟨some 13,.ld 2 true (.t 12),none⟩::⟨some 5,.al [.int .i64 0,.int .i64 0],none⟩::⟨none,.st 2 (.t 5) (.t 13),none⟩::[])) (.reg (⟨some 14,.mv (.t 3),none⟩::⟨some 15,.fa 0 (.t 5),none⟩::⟨some 16,.ld 1 false (.t 15),none⟩::⟨some 17,.bsl 1 1 [.int .i64 0] [(0,(.t 16))],none⟩::⟨some 18,.ap 1 8 (.t 14) (.t 17),none⟩::⟨some 3,.mv (.t 18),none⟩::[])))) (.reg (⟨some 19,.bin .add (.t 10) (.c (.int .i64 1)),none⟩::⟨some 10,.mv (.t 19),none⟩::[])))))))) (.seq (.reg (⟨some 20,.mv (.t 3),none⟩::⟨some 2,.mv (.t 20),none⟩::[])) .ret))))
theorem cd_spvec_Places : Code1 Tryz.prog 63 21 ir_spvec_Places [.t 2]:=⟨Tryz.call63,_,_,Tryz.func63,rfl,by kernel_rfl,by kernel_rfl,by kernel_rfl,by kernel_rfl⟩
set_option maxHeartbeats 4000000 in
theorem fs_vPlaces (n : Int) (l : List (Int × Int)) (hl : l.length <= 400000000) : FS Tryz.prog 63 [VC n l] (Z (plsI (sl n l))):=by
  refine fs_of_cvc mixed cd_spvec_Places (by simp) ?_
  have c1:=fs_vsure n l (by omega)
  have s1:=sl_len n l
  generalize sn n l = N1 at *
  generalize sl n l = a at *
  have hal:=its_len a
  repeat' (conv=>whnf); first |(refine Or.inl ⟨by rfl,_,c1,?_⟩) |(refine And.intro (show _ <= _ from Nat.le_of_ble_eq_true rfl) ?_) | fail
  refine ⟨Nat,fun j=>j <= a.length,fun j=>[(3,.osl 1 1 0 j),(8,IL a),(9,.int .i64 (a.length : Int)),(10,.int .i64 (j : Int))],fun j=>[.vars [.int .i64 n,IL l],.arr 1 (zs (plsI (a.take j)))],fun _=>none,fun j=>a.length - j,
    ⟨0,Nat.zero_le _,⟨⟨Nat.le_refl _,rfl,rfl⟩,rfl,?_,rfl,trivial⟩,⟨⟨rfl,rfl,trivial⟩,rfl,trivial⟩,rfl⟩,fun j hj=>?_⟩
  . exact congrArg (SV.int .i64) (congrArg Int.ofNat hal)
  have hj : j <= a.length:=hj
  by_cases hja : j < a.length
  . obtain ⟨x,hx⟩ : ∃ x,a.getD j (0,0) = x:=⟨_,rfl⟩
    have hxj : a[j]? = some x:=by rw [<- hx]; simp [hja]
    have hzl : (zs (plsI (a.take j))).length = j:=by simp [zs,plsI]; omega
    repeat' (conv=>whnf); first |(refine its_go' (i:=j) (by omega) hx ?_) |(refine And.intro (Or.inl (Nat.zero_le _)) ?_) |(refine And.intro (show _ <= _ from Nat.le_of_ble_eq_true rfl) ?_) |((refine And.intro (by intro y hy; simp at hy; subst hy; rfl) ?_)) |(refine Br.dec (fun h=>?_) (fun h=>?_)) <;> try (exfalso; omega) | refine And.intro rfl ?_ |(refine And.intro (by omega) ?_) |(refine ⟨_,Or.inl ⟨⟨by omega,by omega⟩,rfl⟩,?_⟩) |(refine And.intro (by simp only [lens_all]; first | done | omega) ?_) | fail
    refine ⟨j + 1,(show j + 1 <= a.length by omega),(show a.length - (j + 1) < a.length - j by omega),⟨rfl,rfl,rfl,rfl,trivial⟩,⟨⟨rfl,rfl,trivial⟩,?_,⟨(show 1 <= 2 by omega),rfl,rfl⟩⟩,rfl⟩
    refine congrArg (Blk.arr 1) ?_
    rw [vtk_more hxj]
    unfold zs plsI
    rw [List.map_append,List.map_append]; rfl
  . obtain rfl : j = a.length:=by omega
    have hzl : (zs (plsI (a.take a.length))).length = a.length:=by simp [zs,plsI]
    repeat' (conv=>whnf); first |(refine Br.dec (fun h=>?_) (fun h=>?_)) <;> try (exfalso; omega) | refine And.intro rfl ?_ |(refine And.intro (by omega) ?_) | fail
    conv=>whnf
    have e1 : List.take a.length (List.drop 0 (zs (plsI (a.take a.length)))) = zs (plsI a):=by
      rw [List.take_length,List.drop_zero,List.take_of_length_le (by simp [zs,plsI])]
    rw [e1]
end
end Go.Proofs.YtelbhbadkbcakaaGreat
