/- What a matrix's row comes to (plain). What a matrix's row comes to: the program's. The program's pull: sums, done, times. -/
import Derived.Test.YtelbhbadkbcakaaGreatE1
namespace Go.Proofs.YtelbhbadkbcakaaGreat
section
open Go.RowKit
attribute [local irreducible] FS FO IT HS
def sms (l : List (Int × Int)) : List (List SV):=l.map fun x=>[.int .i64 x.1,.int .i64 (hi x.2),.int .u64 (lo x.2)]
def SM (l : List (Int × Int)) : SV:=.slc 3 (sms l)
theorem sms_len (l : List (Int × Int)) : (sms l).length = l.length:=by simp [sms]
theorem sms_append (l m : List (Int × Int)) : sms (l ++ m) = sms l ++ sms m:=by simp [sms]
theorem sms_go {l : List (Int × Int)} {x : Int × Int} {q i : Nat} {K : List SV -> Prop} (hq : q = i) (hx : l.getD i (0,0) = x) (h : K [.int .i64 x.1,.int .i64 (hi x.2),.int .u64 (lo x.2)]) : ∀ y,(sms l)[q]? = some y -> K y:=fun y hy=>by
  subst hq hx
  simp only [sms,List.getElem?_map,Option.map_eq_some_iff] at hy
  obtain ⟨z,hz,rfl⟩:=hy
  simpa [hz] using h
theorem frz_sms (l : List (Int × Int)) : List.take l.length (List.drop 0 (sms l)) = sms l:=by
  rw [List.drop_zero,<- sms_len,List.take_length]
theorem sms_loose (l : List (Int × Int)) : ∀ b ∈ [Blk.arr 3 (sms l)],Blk.loose b:=fun b hb=>by
  rw [List.mem_singleton.1 hb]
  intro x hx
  obtain ⟨y,_,rfl⟩:=List.mem_map.1 hx
  rfl
def accS (r : Int) (o : Option Int) (w : Int) : Option Int:=match o with
  | none=>some w
  | some s=>some (rAdd r s w)
def rowF (r : Int) (g : Int -> Option Int) (o : Option Int) (x : Int × Int) : Option Int:=match g x.1 with
  | none=>o
  | some v=>accS r o (rMul r x.2 v)
def rowO (r : Int) (g : Int -> Option Int) (l : List (Int × Int)) : Option Int:=l.foldl (rowF r g) none
def rowL (st col val : List Int) (i : Nat) : List (Int × Int):=(List.range (st.getD (i + 1) 0 - st.getD i 0).toNat).map fun j=>(col.getD ((st.getD i 0).toNat + j) 0,val.getD ((st.getD i 0).toNat + j) 0)
theorem rowL_len (st col val : List Int) (i : Nat) : (rowL st col val i).length = (st.getD (i + 1) 0 - st.getD i 0).toNat:=by simp [rowL]
theorem rowL_at {st col val : List Int} {i j : Nat} (h : j < (st.getD (i + 1) 0 - st.getD i 0).toNat) : (rowL st col val i)[j]? = some (col.getD ((st.getD i 0).toNat + j) 0,val.getD ((st.getD i 0).toNat + j) 0):=by
  unfold rowL
  rw [List.getElem?_map,List.getElem?_range h]; rfl
theorem rowO_more {r : Int} {g : Int -> Option Int} {l : List (Int × Int)} {k : Nat} {x : Int × Int} (h : l[k]? = some x) : rowO r g (l.take (k + 1)) = rowF r g (rowO r g (l.take k)) x:=by
  unfold rowO
  rw [vtk_more h,List.foldl_append]; rfl
theorem accS_w {r : Int} {o : Option Int} {w : Int} (ho : ∀ s,o = some s -> W128 s) (hw : W128 w) : ∀ s,accS r o w = some s -> W128 s:=by
  intro s hs
  cases o with
  | none=>cases hs; exact hw
  | some t=>cases hs; exact rAdd_w (ho t rfl) hw
theorem rowF_w {r : Int} {g : Int -> Option Int} (hg : ∀ c v,g c = some v -> I64 v) {o : Option Int} (ho : ∀ s,o = some s -> W128 s) {x : Int × Int} (hx : I64 x.2) : ∀ s,rowF r g o x = some s -> W128 s:=by
  unfold rowF
  cases h : g x.1 with
  | none=>exact ho
  | some v=>exact accS_w ho (rMul_w hx (hg _ _ h))
theorem rowO_w {r : Int} {g : Int -> Option Int} (hg : ∀ c v,g c = some v -> I64 v) : ∀ (l : List (Int × Int)),(∀ x ∈ l,I64 x.2) -> ∀ (o : Option Int),(∀ s,o = some s -> W128 s) -> ∀ s,l.foldl (rowF r g) o = some s -> W128 s
  | [],_,_o,ho=>ho
  | x::l,hl,_o,ho=>rowO_w hg l (fun y hy=>hl y (List.mem_cons_of_mem _ hy)) _ (rowF_w hg ho (hl x List.mem_cons_self))
theorem mem_rowL {st col val : List Int} {i : Nat} (hv : Zb val) {x : Int × Int} (hx : x ∈ rowL st col val i) : I64 x.2:=by
  obtain ⟨j,_,rfl⟩:=List.mem_map.1 hx
  exact hv.at _
theorem dG_I {f : List Nat} {v : List Int} (hv : Zb v) (c : Int) (x : Int) (h : dG f v c = some x) : I64 x:=by
  unfold dG at h
  split at h
  . cases h; exact hv.at _
  . cases h
theorem FoS.three {H' : List Blk} {sv res : SV} {b1 b2 b3 : Blk} (h : Mat [some 0,some 1,some 2] res sv) (h1 : H'[0]? = some b1) (h2 : H'[1]? = some b2) (h3 : H'[2]? = some b3) (hp1 : okBlk b1 = true) (hp2 : okBlk b2 = true) (hp3 : okBlk b3 = true) : FoS H' sv res [b1,b2,b3]:=by
  have h0 : ∀ j k' : Nat,[some 0,some 1,some 2][j]? = some (some k') -> j = k' /\ k' < 3:=fun j k' hj=>by
    rcases j with _ | _ | _ | j
    . simp at hj; omega
    . simp at hj; omega
    . simp at hj; omega
    . simp at hj
  refine ⟨[some 0,some 1,some 2],h,rfl,fun j k' hj=>?_,fun i j k' e1 e2=>?_,by simp [hp1,hp2,hp3]⟩
  . obtain ⟨rfl,hlt⟩:=h0 j k' hj
    rcases j with _ | _ | _ | j
    . simp [h1]
    . simp [h2]
    . simp [h3]
    . omega
  . obtain ⟨rfl,_⟩:=h0 i k' e1
    obtain ⟨rfl,_⟩:=h0 j _ e2
    rfl
def askL (n : Int) (f : List Nat) (o : Bool) : List Nat:=(List.range n.toNat).filter fun (i : Nat)=>hasI f (i : Int) != o
def sumsL (R : Nat -> Option Int) (l : List Nat) : List (Int × Int):=l.filterMap fun (i : Nat)=>(R i).map fun s=>((i : Int),s)
theorem sumsL_more {R : Nat -> Option Int} {l : List Nat} {k x : Nat} (h : l[k]? = some x) : sumsL R (l.take (k + 1)) = sumsL R (l.take k) ++ ((R x).map fun s=>((x : Int),s)).toList:=by
  unfold sumsL
  rw [List.take_add_one,h,List.filterMap_append]
  cases hr : R x <;> simp [hr]
theorem sumsL_le (R : Nat -> Option Int) (l : List Nat) : (sumsL R l).length <= l.length:=List.length_filterMap_le _ _
theorem askL_mem {n : Int} {f : List Nat} {o : Bool} {i : Nat} (h : i ∈ askL n f o) : (i : Int) < n /\ (hasI f (i : Int) != o) = true:=by
  obtain ⟨h1,h2⟩:=List.mem_filter.1 h
  exact ⟨by have:=List.mem_range.1 h1; omega,h2⟩
end
section
open Go.RowKit
attribute [local irreducible] FS FO IT HS
def ir_pull_asked : IR :=
(.seq (.reg (⟨some 3,.bx (.t 0),none⟩::⟨some 4,.bx (.t 1),none⟩::⟨some 5,.bx (.t 2),none⟩::⟨some 6,.mv (.c (.raw .nilFunc)),none⟩::[])) (.seq (.reg (⟨some 7,.fn 126 [(.t 3),(.t 4),(.t 5)],none⟩::⟨some 6,.mv (.t 7),none⟩::[])) .ret))
theorem cd_pull_asked : Code1 Tryz.prog 95 8 ir_pull_asked [.t 6]:=⟨Tryz.call95,_,_,Tryz.func95,rfl,by kernel_rfl,by kernel_rfl,by kernel_rfl,by kernel_rfl⟩
theorem fs_pasked (n : Int) (f : List Nat) (o : Bool) : FS Tryz.prog 95 [.int .i64 n,U f,.bool o] (.fn 126 [.box [.int .i64 n] 0,.box [U f] 0,.box [.bool o] 0]):=by
  refine fs_of_cvc mixed cd_pull_asked (by simp) ?_
  repeat' (conv=>whnf); first | fail
  exact rfl
theorem askK (f : List Nat) (o : Bool) (k : Nat) : (askL ((k : Int) + 1) f o) = askL (k : Int) f o ++ (if (hasI f (k : Int) != o) = true then [k] else []):=by
  unfold askL
  rw [show ((k : Int) + 1).toNat = k + 1 by omega,show (k : Int).toNat = k by omega,List.range_succ,List.filter_append]
  congr 1
  by_cases h : (hasI f (k : Int) != o) = true
  . rw [if_pos h,List.filter_cons,if_pos h]; rfl
  . rw [if_neg h,List.filter_cons,if_neg h]; rfl
theorem askP {n : Int} {k : Nat} (h : (k : Int) <= n) (f : List Nat) (o : Bool) : ∃ t,askL n f o = askL (k : Int) f o ++ t:=by
  refine ⟨((List.range' k (n.toNat - k)).filter fun (i : Nat)=>hasI f (i : Int) != o),?_⟩
  unfold askL
  rw [show (k : Int).toNat = k by omega,<- List.filter_append]
  congr 1
  have h1:=List.range'_append_1 (s:=0) (m:=k) (n:=n.toNat - k)
  rw [Nat.zero_add,show k + (n.toNat - k) = n.toNat by omega] at h1
  rw [List.range_eq_range',List.range_eq_range',h1]
theorem askG {n : Int} {k : Nat} (h : (k : Int) < n) {f : List Nat} {o : Bool} (hk : (hasI f (k : Int) != o) = true) : (askL n f o)[(askL (k : Int) f o).length]? = some k:=by
  obtain ⟨t,ht⟩:=askP (show ((k + 1 : Nat) : Int) <= n by omega) f o
  rw [ht,show ((k + 1 : Nat) : Int) = (k : Int) + 1 by omega,askK,if_pos hk,List.append_assoc,List.getElem?_append_right (Nat.le_refl _),Nat.sub_self]
  rfl
def ir_pull_asked_1 : IR :=
(.seq (.reg (⟨some 6,.ld 1 false (.t 1),none⟩::⟨some 7,.mv (.c (.int .i64 0)),none⟩::[])) (.block 0 (.loop (.seq (.reg (⟨some 8,.bin .lss (.t 7) (.t 6),none⟩::[])) (.seq (.cond (.t 8) .skip (.exit 0)) (.seq (.block 1 (.seq (.reg (⟨some 9,.mv (.t 7),none⟩::⟨some 5,.mv (.t 9),none⟩::[])) (.seq (.draw (⟨some 10,.ld 1 false (.t 2),none⟩::⟨some 11,.mv (.t 5),none⟩::⟨some 12,.call (.c (.fn 114 [])) [(.t 10),(.t 11)],none⟩::⟨some 13,.ld 1 false (.t 3),none⟩::⟨some 14,.beq true (.t 12) (.t 13),none⟩::⟨some 15,.mv (.t 14),none⟩::⟨some 16,.mv (.t 0),some (15,true)⟩::⟨some 17,.mv (.t 5),some (15,true)⟩::[]) (⟨some 18,.call (.t 16) [(.t 17)],some (15,true)⟩::⟨some 19,.un .not (.t 18),some (15,true)⟩::⟨some 20,.pick (.t 15) (.t 19) (.c (.bool false)),none⟩::[])) (.cond (.t 20) .ret .skip)))) (.reg (⟨some 21,.bin .add (.t 7) (.c (.int .i64 1)),none⟩::⟨some 7,.mv (.t 21),none⟩::[]))))))))
theorem cd_pull_asked_1 : Code1 Tryz.prog 126 22 ir_pull_asked_1 []:=⟨Tryz.call126,_,_,Tryz.func126,rfl,by kernel_rfl,by kernel_rfl,by kernel_rfl,by kernel_rfl⟩
set_option maxHeartbeats 2000000 in
theorem it_asked (n : Int) (f : List Nat) (o : Bool) (hn0 : 0 <= n) (hn1 : n <= 4096) (hw : Wd f) : IT Tryz.prog 126 [.box [.int .i64 n] 0,.box [U f] 0,.box [.bool o] 0] [] (ints (askL n f o)):=by
  refine it_of_cvc mixed cd_pull_asked_1 (ks:=[]) (by simp) fun l=>?_
  have hil:=ints_len (askL n f o)
  repeat' (conv=>whnf); first | fail
  refine ⟨Nat,fun k=>(k : Int) <= n,fun k=>[(0,.raw (.func (.yield l) #[] #[])),(1,.box [.int .i64 n] 0),(2,.box [U f] 0),(3,.box [.bool o] 0),(6,.int .i64 n),(7,.int .i64 (k : Int))],fun _=>[],fun k=>some (askL (k : Int) f o).length,fun k=>n.toNat - k,
    ⟨0,hn0,⟨rfl,rfl,rfl,rfl,rfl,rfl,trivial⟩,trivial,rfl⟩,fun k hk=>?_⟩
  have hk : (k : Int) <= n:=hk
  by_cases hkn : (k : Int) < n
  . have c:=fs_Has f hw (k : Int) (by omega)
    obtain ⟨b,hb⟩ : ∃ b,hasI f (k : Int) = b:=⟨_,rfl⟩
    rw [hb] at c
    have hst:=askK f o k
    rw [hb] at hst
    have hend : (some (askL (k : Int) f o).length : Option Nat) = some (askL (((k + 1 : Nat)) : Int) f o).length \/ (b != o) = true:=by
      by_cases h : (b != o) = true
      . exact .inr h
      . left
        rw [if_neg h,List.append_nil] at hst
        rw [show ((k + 1 : Nat) : Int) = (k : Int) + 1 by omega,hst]
    by_cases hbo : (b != o) = true
    . have hg:=askG hkn (show (hasI f (k : Int) != o) = true by rw [hb]; exact hbo)
      have hg' : (ints (askL n f o))[(askL (k : Int) f o).length]? = some [.int .i64 (k : Int)]:=by
        simp [ints,hg]
      have e2 : askL (((k + 1 : Nat)) : Int) f o = askL (k : Int) f o ++ [k]:=by
        rw [show ((k + 1 : Nat) : Int) = (k : Int) + 1 by omega,hst,if_pos hbo]
      cases b <;> cases o <;> simp at hbo
      all_goals
        repeat' (conv=>whnf); first |(refine Or.inl ⟨by rfl,_,c,?_⟩) |(refine ⟨_,rfl,hg',?_,?_⟩) | refine Br.tt ?_ | refine Br.ff ?_ |(refine Br.dec (fun h=>?_) (fun h=>?_)) <;> try (exfalso; omega) | refine And.intro rfl ?_ |(refine ⟨_,Or.inl ⟨⟨by omega,by omega⟩,rfl⟩,?_⟩) | fail
        . refine ⟨k + 1,(show ((k + 1 : Nat) : Int) <= n by omega),(show n.toNat - (k + 1) < n.toNat - k by omega),⟨rfl,rfl,rfl,rfl,rfl,rfl,trivial⟩,trivial,?_⟩
          show some _ = some (askL (((k + 1 : Nat)) : Int) f _).length
          rw [e2]
          exact congrArg some (by simp)
        . exact Or.inr rfl
    . rcases hend with hend | hend
      . cases b <;> cases o <;> simp at hbo
        all_goals
          repeat' (conv=>whnf); first |(refine Or.inl ⟨by rfl,_,c,?_⟩) |(refine Br.bne (by rfl) ?_) | refine Br.ff ?_ |(refine Br.dec (fun h=>?_) (fun h=>?_)) <;> try (exfalso; omega) | refine And.intro rfl ?_ |(refine ⟨_,Or.inl ⟨⟨by omega,by omega⟩,rfl⟩,?_⟩) | fail
          exact ⟨k + 1,(show ((k + 1 : Nat) : Int) <= n by omega),(show n.toNat - (k + 1) < n.toNat - k by omega),⟨rfl,rfl,rfl,rfl,rfl,rfl,trivial⟩,trivial,hend⟩
      . exact absurd hend hbo
  . obtain rfl : n = (k : Int):=by omega
    repeat' (conv=>whnf); first |(refine Br.dec (fun h=>?_) (fun h=>?_)) <;> try (exfalso; omega) | refine And.intro rfl ?_ | fail
    exact Or.inl (congrArg some hil.symm)
def ir_pull_adder : IR :=
(.seq (.reg (⟨some 1,.bx (.t 0),none⟩::⟨some 2,.mv (.c (.raw .nilFunc)),none⟩::⟨some 3,.mv (.c (.raw .nilFunc)),none⟩::[])) (.seq (.reg (⟨some 4,.al [.int .i64 0,.int .u64 0],none⟩::[])) (.seq (.reg (⟨some 5,.al [.bool false],none⟩::⟨none,.st 1 (.t 5) (.c (.bool false)),none⟩::[])) (.seq (.reg (⟨some 6,.fn 154 [(.t 5),(.t 1),(.t 4)],none⟩::⟨some 2,.mv (.t 6),none⟩::[])) (.seq (.reg (⟨some 7,.mv (.t 2),none⟩::⟨some 8,.fn 155 [(.t 4),(.t 5)],none⟩::⟨some 2,.mv (.t 7),none⟩::⟨some 3,.mv (.t 8),none⟩::[])) .ret)))))
theorem cd_pull_adder : Code1 Tryz.prog 127 9 ir_pull_adder [.t 2,.t 3]:=⟨Tryz.call127,_,_,Tryz.func127,rfl,by kernel_rfl,by kernel_rfl,by kernel_rfl,by kernel_rfl⟩
theorem fo_padder (r : Int) : FO Tryz.prog 127 [.int .i64 r] (.tup [.fn 154 [.ptr 2 0 0 0,.ptr 0 0 0 0,.ptr 1 0 0 0],.fn 155 [.ptr 1 0 0 0,.ptr 2 0 0 0]]) [.vars [.int .i64 r],.vars [.int .i64 0,.int .u64 0],.vars [.bool false]]:=by
  refine fo_of_cvc mixed cd_pull_adder (by simp) ?_
  repeat' (conv=>whnf); first |(refine And.intro (show _ <= _ from Nat.le_of_ble_eq_true rfl) ?_) | refine And.intro rfl ?_ | fail
  exact Or.inr (Or.inr (FoS.three (MatL.tup (.cons (MatL.fn (.cons (.ptr 2 2 0 0 0 rfl) (.cons (.ptr 0 0 0 0 0 rfl) (.cons (.ptr 1 1 0 0 0 rfl) .nil)))) (.cons (MatL.fn (.cons (.ptr 1 1 0 0 0 rfl) (.cons (.ptr 2 2 0 0 0 rfl) .nil))) .nil))) rfl rfl rfl rfl rfl rfl))
def ir_pull_adder_2 : IR :=
(.seq (.reg (⟨some 2,.al [.int .i64 0,.int .u64 0],none⟩::⟨some 3,.mv (.c (.bool false)),none⟩::[])) (.seq (.drawL (⟨some 4,.ld 2 true (.t 0),none⟩::⟨some 5,.ld 1 false (.t 1),none⟩::[]) (⟨some 5,.ld 1 false (.t 1),none⟩::[]) (⟨none,.st 2 (.t 2) (.t 4),none⟩::[]) (⟨some 3,.mv (.t 5),none⟩::[])) .ret))
theorem cd_pull_adder_2 : Code1 Tryz.prog 155 6 ir_pull_adder_2 [.c 2 true 2,.t 3]:=⟨Tryz.call155,_,_,Tryz.func155,rfl,by kernel_rfl,by kernel_rfl,by kernel_rfl,by kernel_rfl⟩
theorem fs_told (s : Int) (b : Bool) : FS Tryz.prog 155 [.box [.int .i64 (hi s),.int .u64 (lo s)] 0,.box [.bool b] 0] (.tup [WN s,.bool b]):=by
  refine fs_of_cvc mixed cd_pull_adder_2 (by simp) ?_
  repeat' (conv=>whnf); first |((refine ex_but 0 ?_; refine And.intro ?_ ?_; focus ((repeat' (first | exact trivial | exact rfl | (refine And.intro ?_ ?_) | omega | exact Nat.le_of_ble_eq_true rfl | ((conv=>whnf); first | exact trivial | exact rfl | (refine And.intro ?_ ?_)))); done))) |(exact rfl) |((refine And.intro ?_ ?_; focus ((repeat' (first | exact trivial | exact rfl | (refine And.intro ?_ ?_) | omega | exact Nat.le_of_ble_eq_true rfl | ((conv=>whnf); first | exact trivial | exact rfl | (refine And.intro ?_ ?_)))); done))) | fail
  all_goals exact rfl
section
variable (rows cols : Int) (st col val : List Int) (n : Int) (f : List Nat) (v : List Int) (r : Int)
def ir_pull_adder_1 : IR :=
(.seq (.reg (⟨some 4,.bx (.t 0),none⟩::[])) (.seq (.seq (.reg (⟨some 5,.ld 1 false (.t 1),none⟩::[])) (.cond (.t 5) (.reg (⟨some 6,.ld 1 false (.t 2),none⟩::⟨some 7,.ld 2 true (.t 3),none⟩::⟨some 8,.ld 2 true (.t 4),none⟩::⟨some 9,.call (.c (.fn 88 [])) [(.t 6),(.t 7),(.t 8)],none⟩::⟨none,.st 2 (.t 4) (.t 9),none⟩::[])) .skip)) (.reg (⟨some 10,.ld 2 true (.t 4),none⟩::⟨none,.st 2 (.t 3) (.t 10),none⟩::⟨none,.st 1 (.t 1) (.c (.bool true)),none⟩::[]))))
theorem cd_pull_adder_1 : Code1 Tryz.prog 154 11 ir_pull_adder_1 []:=⟨Tryz.call154,_,_,Tryz.func154,rfl,by kernel_rfl,by kernel_rfl,by kernel_rfl,by kernel_rfl⟩
set_option maxHeartbeats 2000000 in
theorem hs_more (o : Option Int) (ho : ∀ s,o = some s -> W128 s) (w : Int) (hw : W128 w) : HS Tryz.prog 154 [WN w,.ptr 5 0 0 0,.ptr 3 0 0 0,.ptr 4 0 0 0]
    [.vars [.int .i64 rows,.int .i64 cols,Z st,Z col,Z val],.vars [.int .i64 n,U f,Z v],.vars [.int .i64 0,.int .u64 0],.vars [.int .i64 r],.vars [.int .i64 (hi (o.getD 0)),.int .u64 (lo (o.getD 0))],.vars [.bool o.isSome]] (.tup [])
    [.vars [.int .i64 rows,.int .i64 cols,Z st,Z col,Z val],.vars [.int .i64 n,U f,Z v],.vars [.int .i64 0,.int .u64 0],.vars [.int .i64 r],.vars [.int .i64 (hi ((accS r o w).getD 0)),.int .u64 (lo ((accS r o w).getD 0))],.vars [.bool (accS r o w).isSome]] []:=by
  refine hs_of_cvc mixed cd_pull_adder_1 (by simp) ?_
  cases o with
  | none =>
    repeat' (conv=>whnf); first |(refine And.intro (show _ <= _ from Nat.le_of_ble_eq_true rfl) ?_) | refine Br.ff ?_ | refine And.intro rfl ?_ | fail
    exact ⟨⟨rfl,rfl,rfl,rfl,rfl,trivial⟩,⟨rfl,rfl,rfl,trivial⟩,⟨rfl,rfl,trivial⟩,⟨rfl,trivial⟩,⟨rfl,rfl,trivial⟩,⟨rfl,trivial⟩,⟨Nat.le_refl _,rfl,rfl⟩⟩
  | some s =>
    have c:=fs_rAdd r s w (ho s rfl) hw
    repeat' (conv=>whnf); first |(refine Or.inl ⟨by rfl,_,c,?_⟩) |(refine And.intro (show _ <= _ from Nat.le_of_ble_eq_true rfl) ?_) | refine Br.tt ?_ | refine And.intro rfl ?_ | fail
    exact ⟨⟨rfl,rfl,rfl,rfl,rfl,trivial⟩,⟨rfl,rfl,rfl,trivial⟩,⟨rfl,rfl,trivial⟩,⟨rfl,trivial⟩,⟨rfl,rfl,trivial⟩,⟨rfl,trivial⟩,⟨Nat.le_refl _,rfl,rfl⟩⟩
def ir_pull_row : IR :=
(.seq (.reg (⟨some 5,.bx (.t 1),none⟩::⟨some 7,.bx (.t 3),none⟩::⟨some 8,.al [.int .i64 0,.int .u64 0],none⟩::⟨some 9,.mv (.c (.bool false)),none⟩::[])) (.seq (.reg (⟨some 15,.mv (.t 0),none⟩::⟨some 16,.call (.c (.fn 127 [])) [(.t 15)],none⟩::⟨some 14,.mv (.t 16),none⟩::⟨some 17,.ex 0 (.t 14),none⟩::⟨some 18,.ex 1 (.t 14),none⟩::⟨some 10,.mv (.t 17),none⟩::⟨some 11,.mv (.t 18),none⟩::[])) (.seq (.seq (.reg (⟨some 19,.fa 2 (.t 5),none⟩::⟨some 20,.ld 1 false (.t 19),none⟩::⟨some 21,.mv (.t 2),none⟩::⟨some 22,.ia 1 (.t 20) (.t 21),none⟩::⟨some 23,.ld 1 false (.t 22),none⟩::⟨some 12,.mv (.t 23),none⟩::[])) (.block 0 (.loop (.seq (.seq (.reg (⟨some 24,.mv (.t 12),none⟩::⟨some 25,.fa 2 (.t 5),none⟩::⟨some 26,.ld 1 false (.t 25),none⟩::⟨some 27,.mv (.t 2),none⟩::⟨some 28,.bin .add (.t 27) (.c (.int .i64 1)),none⟩::⟨some 29,.ia 1 (.t 26) (.t 28),none⟩::⟨some 30,.ld 1 false (.t 29),none⟩::⟨some 31,.bin .lss (.t 24) (.t 30),none⟩::[])) (.cond (.t 31) .skip (.exit 0))) (.seq (.block 1 (.seq (.reg (⟨some 34,.fa 3 (.t 5),none⟩::⟨some 35,.ld 1 false (.t 34),none⟩::⟨some 36,.mv (.t 12),none⟩::⟨some 37,.ia 1 (.t 35) (.t 36),none⟩::⟨some 38,.ld 1 false (.t 37),none⟩::⟨some 13,.mv (.t 38),none⟩::[])) (.seq (.reg (⟨some 39,.fa 1 (.t 7),none⟩::⟨some 40,.ld 1 false (.t 39),none⟩::⟨some 41,.mv (.t 13),none⟩::⟨some 42,.call (.c (.fn 114 [])) [(.t 40),(.t 41)],none⟩::[])) (.cond (.t 42) (.draw (⟨some 43,.mv (.t 10),none⟩::⟨some 44,.mv (.t 0),none⟩::⟨some 45,.fa 4 (.t 5),none⟩::⟨some 46,.ld 1 false (.t 45),none⟩::⟨some 47,.mv (.t 12),none⟩::⟨some 48,.ia 1 (.t 46) (.t 47),none⟩::⟨some 49,.ld 1 false (.t 48),none⟩::⟨some 50,.fa 2 (.t 7),none⟩::⟨some 51,.ld 1 false (.t 50),none⟩::⟨some 52,.mv (.t 13),none⟩::⟨some 53,.ia 1 (.t 51) (.t 52),none⟩::⟨some 54,.ld 1 false (.t 53),none⟩::⟨some 55,.call (.c (.fn 115 [])) [(.t 44),(.t 49),(.t 54)],none⟩::[]) (⟨some 56,.call (.t 43) [(.t 55)],none⟩::[])) .skip)))) (.reg (⟨some 32,.mv (.t 12),none⟩::⟨some 33,.bin .add (.t 32) (.c (.int .i64 1)),none⟩::⟨some 12,.mv (.t 33),none⟩::[]))))))) (.seq (.reg (⟨some 57,.mv (.t 11),none⟩::⟨some 58,.call (.t 57) [],none⟩::⟨some 59,.ex 0 (.t 58),none⟩::⟨some 60,.ex 1 (.t 58),none⟩::⟨none,.st 2 (.t 8) (.t 59),none⟩::⟨some 9,.mv (.t 60),none⟩::[])) .ret))))
theorem cd_pull_row : Code1 Tryz.prog 96 61 ir_pull_row [.c 2 true 8,.t 9]:=⟨Tryz.call96,_,_,Tryz.func96,rfl,by kernel_rfl,by kernel_rfl,by kernel_rfl,by kernel_rfl⟩
set_option maxHeartbeats 4000000 in
theorem fs_prow (hM : OkM rows cols st col val) (hval : Zb val) (hD : OkD n f v) (hv : Zb v) (i : Nat) (hir : (i : Int) < rows) :
    FS Tryz.prog 96 [.int .i64 r,MX rows cols st col val,.int .i64 (i : Int),DV n f v] (.tup [WN ((rowO r (dG f v) (rowL st col val i)).getD 0),.bool (rowO r (dG f v) (rowL st col val i)).isSome]):=by
  refine fs_of_cvc mixed cd_pull_row (by simp) ?_
  have hr1:=hM.r1
  have hsl:=hM.sl
  have hvl:=hM.vl
  have hnl:=hM.nl
  have hc1:=hM.c1
  have hzs:=zs_len st
  have hzc:=zs_len col
  have hzv:=zs_len val
  have hzd:=zs_len v
  have hdl:=hD.vl
  have hn1:=hD.n1
  obtain ⟨a,ha⟩ : ∃ a,st.getD i 0 = a:=⟨_,rfl⟩
  obtain ⟨b,hb⟩ : ∃ b,st.getD (i + 1) 0 = b:=⟨_,rfl⟩
  have hat:=hM.at hir
  rw [ha,hb] at hat
  obtain ⟨h1,h2,h3⟩:=hat
  have c1:=fo_padder r
  have c2 : FS Tryz.prog 155 [.box [.int .i64 (hi ((rowO r (dG f v) (rowL st col val i)).getD 0)),.int .u64 (lo ((rowO r (dG f v) (rowL st col val i)).getD 0))] 0,.box [.bool (rowO r (dG f v) (rowL st col val i)).isSome] 0] (.tup [WN ((rowO r (dG f v) (rowL st col val i)).getD 0),.bool (rowO r (dG f v) (rowL st col val i)).isSome]):=fs_told _ _
  have hll : (rowL st col val i).length = (b - a).toNat:=by rw [rowL_len,ha,hb]
  repeat' (conv=>whnf); first |(refine Or.inr (Or.inl ⟨by rfl,_,_,c1,?_⟩)) |(refine zs_go (i:=i) (by omega) ha ?_) | refine And.intro rfl ?_ |(refine And.intro (by omega) ?_) | fail
  obtain ⟨O,hO⟩ : ∃ O : Nat -> Option Int,∀ k,O k = rowO r (dG f v) ((rowL st col val i).take k):=⟨_,fun _=>rfl⟩
  refine ⟨Nat × Option Int,fun ⟨k,o⟩=>a + (k : Int) <= b /\ o = O k,fun ⟨k,_⟩=>[(0,.int .i64 r),(2,.int .i64 (i : Int)),(5,.ptr 0 0 0 0),(7,.ptr 1 0 0 0),(8,.ptr 2 0 0 0),(10,.fn 154 [.ptr 5 0 0 0,.ptr 3 0 0 0,.ptr 4 0 0 0]),(11,.fn 155 [.ptr 4 0 0 0,.ptr 5 0 0 0]),(12,.int .i64 (a + (k : Int)))],
    fun ⟨_,o⟩=>[.vars [.int .i64 rows,.int .i64 cols,Z st,Z col,Z val],.vars [.int .i64 n,U f,Z v],.vars [.int .i64 0,.int .u64 0],.vars [.int .i64 r],.vars [.int .i64 (hi (o.getD 0)),.int .u64 (lo (o.getD 0))],.vars [.bool o.isSome]],fun _=>none,fun ⟨k,_⟩=>(b - a).toNat - k,
    ⟨(0,none),⟨by omega,(hO 0).symm⟩,⟨rfl,rfl,rfl,rfl,rfl,rfl,rfl,?_,trivial⟩,⟨⟨rfl,rfl,rfl,rfl,rfl,trivial⟩,⟨rfl,rfl,rfl,trivial⟩,⟨rfl,rfl,trivial⟩,⟨rfl,trivial⟩,⟨?_,?_,trivial⟩,⟨rfl,trivial⟩,trivial⟩,rfl⟩,fun ⟨k,o⟩ hk=>?_⟩
  . exact congrArg (SV.int .i64) (show a = a + ((0 : Nat) : Int) by omega)
  . show SV.int .i64 0 = SV.int .i64 (hi 0); rw [zero_hi]
  . show SV.int .u64 0 = SV.int .u64 (lo 0); rw [zero_lo]
  obtain ⟨hk,hok⟩:=hk
  by_cases hkb : a + (k : Int) < b
  . obtain ⟨p,hp⟩ : ∃ p,col.getD (a.toNat + k) 0 = p:=⟨_,rfl⟩
    obtain ⟨q,hq⟩ : ∃ q,val.getD (a.toNat + k) 0 = q:=⟨_,rfl⟩
    have hpc:=hM.cel (i:=i) (k:=a.toNat + k) hir (by omega) (by omega)
    rw [hp] at hpc
    have hqI : I64 q:=by rw [<- hq]; exact hval.at _
    have hst : O (k + 1) = rowF r (dG f v) o (p,q):=by
      rw [hok,hO,hO]
      refine rowO_more ?_
      rw [rowL_at (by rw [ha,hb]; omega),ha,hp,hq]
    have how : ∀ s,o = some s -> W128 s:=by
      rw [hok,hO]
      exact rowO_w (dG_I hv) _ (fun x hx=>mem_rowL hval (List.mem_of_mem_take hx)) none (fun s h=>by cases h)
    have c3:=fs_Has f hD.wd p (by omega)
    unfold rowF dG at hst
    simp only at hst
    cases hh : hasI f p with
    | true =>
      rw [hh] at c3 hst
      rw [if_pos rfl] at hst
      have hpn : p < n:=by
        have:=hD.top p.toNat (by rw [<- hasI_nat,show ((p.toNat : Nat) : Int) = p by omega]; exact hh)
        omega
      obtain ⟨z,hz⟩ : ∃ z,v.getD p.toNat 0 = z:=⟨_,rfl⟩
      rw [hz] at hst
      have hzI : I64 z:=by rw [<- hz]; exact hv.at _
      have c4:=fs_rMul r q z hqI hzI
      have c5:=hs_more rows cols st col val n f v r o how (rMul r q z) (rMul_w hqI hzI)
      have hst' : O (k + 1) = accS r o (rMul r q z):=hst
      repeat' (conv=>whnf); first |(refine zs_go (i:=i + 1) (by omega) hb ?_) |(refine zs_go (i:=a.toNat + k) (by omega) hp ?_) |(refine zs_go (i:=a.toNat + k) (by omega) hq ?_) |(refine zs_go (i:=p.toNat) (by omega) hz ?_) |(refine Or.inl ⟨by rfl,_,c3,?_⟩) |(refine Or.inl ⟨by rfl,_,c4,?_⟩) |(refine Or.inr (Or.inr (Or.inr (Or.inl ⟨_,_,[],c5,by simp,?_⟩)))) | refine Br.tt ?_ |(refine Br.dec (fun h=>?_) (fun h=>?_)) <;> try (exfalso; omega) | refine And.intro rfl ?_ |(refine And.intro (by omega) ?_) |(refine ⟨_,Or.inl ⟨⟨by omega,by omega⟩,rfl⟩,?_⟩) | fail
      refine ⟨(k + 1,accS r o (rMul r q z)),⟨by omega,hst'.symm⟩,(show (b - a).toNat - (k + 1) < (b - a).toNat - k by omega),⟨rfl,rfl,rfl,rfl,rfl,rfl,rfl,?_,trivial⟩,⟨⟨rfl,rfl,rfl,rfl,rfl,trivial⟩,⟨rfl,rfl,rfl,trivial⟩,⟨rfl,rfl,trivial⟩,⟨rfl,trivial⟩,⟨rfl,rfl,trivial⟩,⟨rfl,trivial⟩,trivial⟩,rfl⟩
      exact congrArg (SV.int .i64) (show a + (k : Int) + 1 = a + ((k + 1 : Nat) : Int) by omega)
    | false =>
      rw [hh] at c3 hst
      rw [if_neg (by simp)] at hst
      have hst' : O (k + 1) = o:=hst
      repeat' (conv=>whnf); first |(refine zs_go (i:=i + 1) (by omega) hb ?_) |(refine zs_go (i:=a.toNat + k) (by omega) hp ?_) |(refine Or.inl ⟨by rfl,_,c3,?_⟩) | refine Br.ff ?_ |(refine Br.dec (fun h=>?_) (fun h=>?_)) <;> try (exfalso; omega) | refine And.intro rfl ?_ |(refine And.intro (by omega) ?_) |(refine ⟨_,Or.inl ⟨⟨by omega,by omega⟩,rfl⟩,?_⟩) | fail
      refine ⟨(k + 1,o),⟨by omega,hst'.symm⟩,(show (b - a).toNat - (k + 1) < (b - a).toNat - k by omega),⟨rfl,rfl,rfl,rfl,rfl,rfl,rfl,?_,trivial⟩,⟨⟨rfl,rfl,rfl,rfl,rfl,trivial⟩,⟨rfl,rfl,rfl,trivial⟩,⟨rfl,rfl,trivial⟩,⟨rfl,trivial⟩,⟨rfl,rfl,trivial⟩,⟨rfl,trivial⟩,trivial⟩,rfl⟩
      exact congrArg (SV.int .i64) (show a + (k : Int) + 1 = a + ((k + 1 : Nat) : Int) by omega)
  . have e1 : o = rowO r (dG f v) (rowL st col val i):=by
      rw [hok,hO,List.take_of_length_le (show (rowL st col val i).length <= k by omega)]
    rw [<- e1] at c2 ⊢
    repeat' (conv=>whnf); first |(refine zs_go (i:=i + 1) (by omega) hb ?_) |((refine Or.inr (Or.inr (Or.inl ?_)); (conv=>whnf); refine ⟨_,c2,rfl,?_⟩)) |(refine And.intro (show _ <= _ from Nat.le_of_ble_eq_true rfl) ?_) |(refine Br.dec (fun h=>?_) (fun h=>?_)) <;> try (exfalso; omega) | refine And.intro rfl ?_ |(refine And.intro (by omega) ?_) |(refine ⟨_,Or.inl ⟨⟨by omega,by omega⟩,rfl⟩,?_⟩) | fail
    exact rfl
end
end
section
open Go.RowKit
attribute [local irreducible] FS FO IT HS
def SE (x : List (Int × Int) × Int) : SV:=.tup [SM x.1,.int .i64 x.2]
abbrev Mat5:=Int × Int × List Int × List Int × List Int
abbrev Den3:=Int × List Nat × List Int
def sumsR (r : Int) (m : Mat5) (x : Den3) (g : List Nat) (o : Bool) : List (Int × Int) × Int :=
  if isR r = true then (if x.1 = m.2.1 then (sumsL (fun i=>rowO r (dG x.2.1 x.2.2) (rowL m.2.2.1 m.2.2.2.1 m.2.2.2.2 i)) (askL m.1 g o),0) else ([],4)) else ([],8)
theorem zb_nil : Zb []:=fun x hx=>by cases hx
theorem zb_mS {rows cols : Int} {st col val : List Int} (h : Zb val) : Zb (mS rows cols st col val).2.2.2.2:=by
  unfold mS; split
  . exact h
  . exact zb_nil
theorem zb_dS {n : Int} {f : List Nat} {v : List Int} (h : Zb v) : Zb (dS n f v).2.2:=by
  unfold dS; split
  . exact h
  . exact zb_nil
theorem askL_len (n : Int) (f : List Nat) (o : Bool) : (askL n f o).length <= n.toNat:=by
  unfold askL
  exact Nat.le_trans (List.length_filter_le _ _) (by simp)
def ir_pull_Sums : IR :=
(.seq (.reg (⟨some 5,.bx (.t 0),none⟩::⟨some 6,.bx (.t 1),none⟩::⟨some 7,.bx (.t 2),none⟩::⟨some 10,.mv (.c (.nils)),none⟩::⟨some 11,.mv (.c (.int .i64 0)),none⟩::[])) (.seq (.reg (⟨some 17,.ld 5 true (.t 6),none⟩::⟨some 18,.ld 3 true (.t 7),none⟩::⟨some 19,.call (.c (.fn 94 [])) [(.t 17),(.t 18)],none⟩::⟨some 16,.mv (.t 19),none⟩::⟨some 20,.ex 0 (.t 16),none⟩::⟨some 21,.ex 1 (.t 16),none⟩::⟨none,.st 5 (.t 6) (.t 20),none⟩::⟨none,.st 3 (.t 7) (.t 21),none⟩::[])) (.seq (.block 0 (.seq (.reg (⟨some 23,.ld 1 false (.t 5),none⟩::⟨some 24,.call (.c (.fn 22 [])) [(.t 23)],none⟩::⟨some 25,.un .not (.t 24),none⟩::⟨some 22,.mv (.t 25),none⟩::[])) (.cond (.t 22) (.seq (.reg (⟨some 10,.mv (.c (.nils)),none⟩::⟨some 11,.mv (.c (.int .i64 8)),none⟩::[])) .ret) (.seq (.reg (⟨some 27,.fa 0 (.t 7),none⟩::⟨some 28,.ld 1 false (.t 27),none⟩::⟨some 29,.fa 1 (.t 6),none⟩::⟨some 30,.ld 1 false (.t 29),none⟩::⟨some 31,.bin .neq (.t 28) (.t 30),none⟩::⟨some 26,.mv (.t 31),none⟩::[])) (.cond (.t 26) (.seq (.reg (⟨some 10,.mv (.c (.nils)),none⟩::⟨some 11,.mv (.c (.int .i64 4)),none⟩::[])) .ret) .skip))))) (.seq (.reg (⟨some 12,.al [.nils],none⟩::[])) (.seq (.seq (.reg (⟨some 32,.fa 0 (.t 6),none⟩::⟨some 33,.ld 1 false (.t 32),none⟩::⟨some 34,.mv (.t 3),none⟩::⟨some 35,.mv (.t 4),none⟩::⟨some 36,.call (.c (.fn 95 [])) [(.t 33),(.t 34),(.t 35)],none⟩::[])) (.block 1 (.rng (.t 36) [37] (.reg (⟨some 13,.mv (.t 37),none⟩::[])) (.block 2 (.seq (.reg (⟨some 39,.ld 1 false (.t 5),none⟩::⟨some 40,.ld 5 true (.t 6),none⟩::⟨some 41,.mv (.t 13),none⟩::⟨some 42,.ld 3 true (.t 7),none⟩::⟨some 43,.call (.c (.fn 96 [])) [(.t 39),(.t 40),(.t 41),(.t 42)],none⟩::⟨some 38,.mv (.t 43),none⟩::⟨some 44,.ex 0 (.t 38),none⟩::⟨some 45,.ex 1 (.t 38),none⟩::⟨some 14,.al [.int .i64 0,.int .u64 0],none⟩::⟨none,.st 2 (.t 14) (.t 44),none⟩::⟨some 15,.mv (.t 45),none⟩::[])) (.seq (.reg (⟨some 46,.mv (.t 15),none⟩::[])) (.cond (.t 46) (.reg (⟨some 47,.ld 1 false (.t 12),none⟩::⟨some 48,.mv (.t 13),none⟩::⟨some 49,.ld 2 true (.t 14),none⟩::⟨some 50,.bld [.int .i64 0,.int .i64 0,.int .u64 0] [(0,1,(.t 48)),(1,2,(.t 49))],none⟩::⟨some 51,.bsl 1 3 [.int .i64 0,.int .i64 0,.int .u64 0] [(0,(.t 50))],none⟩::⟨some 52,.ap 3 24 (.t 47) (.t 51),none⟩::⟨none,.st 1 (.t 12) (.t 52),none⟩::[])) .skip))))))) (.seq (.reg (⟨some 53,.ld 1 false (.t 12),none⟩::⟨some 10,.mv (.t 53),none⟩::⟨some 11,.mv (.c (.int .i64 0)),none⟩::[])) .ret))))))
theorem cd_pull_Sums : Code1 Tryz.prog 65 54 ir_pull_Sums [.t 10,.t 11]:=⟨Tryz.call65,_,_,Tryz.func65,rfl,by kernel_rfl,by kernel_rfl,by kernel_rfl,by kernel_rfl⟩
set_option maxHeartbeats 4000000 in
theorem fs_pSums (r : Int) (rows cols : Int) (st col val : List Int) (n : Int) (f : List Nat) (v : List Int) (g : List Nat) (o : Bool) (hval : Zb val) (hn : I64 n) (hw : Wd f) (hf : f.length <= 1000000) (hv : v.length <= 1000000) (hvb : Zb v) (hg : Wd g) :
    FS Tryz.prog 65 [.int .i64 r,MX rows cols st col val,DV n f v,U g,.bool o] (SE (sumsR r (mS rows cols st col val) (dS n f v) g o)):=by
  refine fs_of_cvc mixed cd_pull_Sums (by simp) ?_
  have c1:=fs_psure rows cols st col val n f v hn hw hf hv
  have hM:=okM_mS rows cols st col val
  have hD:=okD_dS n v hw
  have hval':=zb_mS (rows:=rows) (cols:=cols) (st:=st) (col:=col) hval
  have hvb':=zb_dS (n:=n) (f:=f) hvb
  generalize mS rows cols st col val = m at *
  generalize dS n f v = d at *
  obtain ⟨rows,cols,st,col,val⟩:=m
  obtain ⟨n,f,v⟩:=d
  have c1' : FS Tryz.prog 94 [MX _ _ _ _ _,DV _ _ _] (.tup [MX rows cols st col val,DV n f v]):=c1
  have hM : OkM rows cols st col val:=hM
  have hD : OkD n f v:=hD
  have hval' : Zb val:=hval'
  have hvb' : Zb v:=hvb'
  have hr0:=hM.r0
  have hr1:=hM.r1
  have c2:=fs_Is r
  obtain ⟨t,ht⟩ : ∃ t,sumsR r (rows,cols,st,col,val) (n,f,v) g o = t:=⟨_,rfl⟩
  rw [ht]
  unfold sumsR at ht
  simp only at ht
  cases hR : isR r with
  | false =>
    rw [hR] at ht c2
    rw [if_neg (by simp)] at ht
    subst ht
    repeat' (conv=>whnf); first |(refine Or.inl ⟨by rfl,_,c1',?_⟩) |(refine Or.inl ⟨by rfl,_,c2,?_⟩) |(refine And.intro (show _ <= _ from Nat.le_of_ble_eq_true rfl) ?_) | refine Br.tt ?_ | refine And.intro rfl ?_ | fail
    all_goals first | exact rfl | exact trivial | exact ⟨rfl,trivial⟩ | exact ⟨rfl,rfl,trivial⟩
  | true =>
    rw [hR] at ht c2
    rw [if_pos rfl] at ht
    by_cases hnc : n = cols
    . rw [if_pos hnc] at ht
      obtain ⟨R,hRR⟩ : ∃ R : Nat -> Option Int,R = fun i=>rowO r (dG f v) (rowL st col val i):=⟨_,rfl⟩
      rw [<- hRR] at ht
      have c3:=fs_pasked rows g o
      have hit:=it_asked rows g o hr0 hr1 hg
      have hak:=askL_len rows g o
      have hil:=ints_len (askL rows g o)
      repeat' (conv=>whnf); first |(refine Or.inl ⟨by rfl,_,c1',?_⟩) |(refine Or.inl ⟨by rfl,_,c2,?_⟩) |(refine Or.inl ⟨by rfl,_,c3,?_⟩) |(refine And.intro (show _ <= _ from Nat.le_of_ble_eq_true rfl) ?_) | refine Br.ff ?_ |(refine Br.dec (fun h=>?_) (fun h=>?_)) <;> try (exfalso; omega) | refine And.intro rfl ?_ | fail
      refine ⟨[],[],[.box [.int .i64 rows] 0,.box [U g] 0,.box [.bool o] 0],[],ints (askL rows g o),fun i=>[.vars [.int .i64 r],.vars [.int .i64 rows,.int .i64 cols,Z st,Z col,Z val],.vars [.int .i64 n,U f,Z v],.vars [.osl 4 3 0 (sumsL R ((askL rows g o).take i)).length],.arr 3 (sms (sumsL R ((askL rows g o).take i)))],fun i=>i <= (askL rows g o).length,hit,rfl,rfl,rfl,rfl,List.nodup_nil,by simp,⟨⟨rfl,trivial⟩,⟨rfl,rfl,rfl,rfl,rfl,trivial⟩,⟨rfl,rfl,rfl,trivial⟩,⟨⟨Nat.le_refl _,rfl,rfl⟩,trivial⟩,rfl,trivial⟩,Nat.zero_le _,fun i x hx hi=>?_,fun hi=>?_⟩
      . obtain ⟨j,hj,rfl⟩:=ints_get' hx
        have hjl:=(List.getElem?_eq_some_iff.1 hj).1
        have hjm:=askL_mem (List.mem_of_getElem? hj)
        have c4:=fs_prow rows cols st col val n f v r hM hval' hD hvb' j hjm.1
        have hle:=sumsL_le R ((askL rows g o).take i)
        have hle2 : ((askL rows g o).take i).length <= 4096:=by simp; omega
        have hsl:=sms_len (sumsL R ((askL rows g o).take i))
        have hst:=sumsL_more (R:=R) hj
        have hRj : R j = rowO r (dG f v) (rowL st col val j):=by rw [hRR]
        rw [<- hRj] at c4
        cases hs : R j with
        | none =>
          rw [hs] at c4 hst
          have c4' : FS Tryz.prog 96 [.int .i64 r,MX rows cols st col val,.int .i64 (j : Int),DV n f v] (.tup [WN 0,.bool false]):=c4
          refine ⟨rfl,?_⟩
          repeat' (conv=>whnf); first |(refine Or.inl ⟨by rfl,_,c4',?_⟩) |(refine And.intro (show _ <= _ from Nat.le_of_ble_eq_true rfl) ?_) | refine Br.ff ?_ | refine And.intro rfl ?_ |(refine And.intro (by omega) ?_) | fail
          refine ⟨⟨rfl,trivial⟩,⟨rfl,rfl,rfl,rfl,rfl,trivial⟩,⟨rfl,rfl,rfl,trivial⟩,⟨?_,trivial⟩,?_,⟨Nat.le_of_ble_eq_true rfl,rfl⟩⟩
          . rw [hst]; exact congrArg (SV.osl 4 3 0) (by simp)
          . rw [hst]; exact congrArg (fun l=>Blk.arr 3 (sms l)) (by simp)
        | some s =>
          rw [hs] at c4 hst
          have c4' : FS Tryz.prog 96 [.int .i64 r,MX rows cols st col val,.int .i64 (j : Int),DV n f v] (.tup [WN s,.bool true]):=c4
          refine ⟨rfl,?_⟩
          repeat' (conv=>whnf); first |(refine Or.inl ⟨by rfl,_,c4',?_⟩) |(refine And.intro (show _ <= _ from Nat.le_of_ble_eq_true rfl) ?_) |((refine And.intro (by intro y hy; simp at hy; subst hy; rfl) ?_)) | refine Br.tt ?_ | refine And.intro rfl ?_ |(refine And.intro (by omega) ?_) |(refine And.intro (by simp only [lens_all]; first | done | omega) ?_) | fail
          refine ⟨⟨rfl,trivial⟩,⟨rfl,rfl,rfl,rfl,rfl,trivial⟩,⟨rfl,rfl,rfl,trivial⟩,⟨?_,trivial⟩,?_,⟨Nat.le_of_ble_eq_true rfl,rfl⟩⟩
          . rw [hst]; exact congrArg (SV.osl 4 3 0) (by simp)
          . rw [hst,sms_append]; rfl
      . subst ht
        repeat' (conv=>whnf); first | refine And.intro rfl ?_ |(refine And.intro (by simp only [sms_len,ints_len]; first | done | omega) ?_) | fail
        conv=>whnf
        rw [hil,List.take_length,frz_sms]
        exact rfl
    . rw [if_neg hnc] at ht
      subst ht
      repeat' (conv=>whnf); first |(refine Or.inl ⟨by rfl,_,c1',?_⟩) |(refine Or.inl ⟨by rfl,_,c2,?_⟩) |(refine And.intro (show _ <= _ from Nat.le_of_ble_eq_true rfl) ?_) | refine Br.ff ?_ |(refine Br.dec (fun h=>?_) (fun h=>?_)) <;> try (exfalso; omega) | refine And.intro rfl ?_ | fail
      all_goals first | exact rfl | exact trivial | exact ⟨rfl,trivial⟩ | exact ⟨rfl,rfl,trivial⟩
/-! ### Done -/
end
end Go.Proofs.YtelbhbadkbcakaaGreat
