/- The document's matrices of triples. The document's matrices of any triples; those of the statements. Matrices of triples can be (plain). A task's matrix and vectors. -/
import Derived.Test.YtelbhbadkbcakaaGreatE3
namespace Go.Proofs.YtelbhbadkbcakaaGreat
section
open Go.RowKit
attribute [local irreducible] FS FO IT HS
abbrev Tri:=Int × Int × Int
def cntB (l : List Tri) (k : Nat) : Nat:=(l.filter fun x=>decide (x.1 < (k : Int))).length
theorem cntB_le (l : List Tri) (k : Nat) : cntB l k <= l.length:=List.length_filter_le _ _
theorem cntB_more {l : List Tri} {i : Nat} {x : Tri} (h : l[i]? = some x) (k : Nat) : cntB (l.take (i + 1)) k = cntB (l.take i) k + if x.1 < (k : Int) then 1 else 0:=by
  unfold cntB
  rw [List.take_add_one,h,List.filter_append,List.length_append]
  congr 1
  by_cases hx : x.1 < (k : Int)
  . rw [if_pos hx]; simp [hx]
  . rw [if_neg hx]; simp [hx]
def stB (rows : Int) (l : List Tri) : List Int:=tab (rows + 1).toNat fun k=>(cntB l k : Int)
def stP (rows : Int) (l : List Tri) (x : Tri) (kk : Int) : List Int:=tab (rows + 1).toNat fun k=>(cntB l k : Int) + if x.1 < (k : Int) /\ (k : Int) < kk then 1 else 0
theorem stB_len (rows : Int) (l : List Tri) : (stB rows l).length = (rows + 1).toNat:=tab_len _ _
theorem stP_len (rows : Int) (l : List Tri) (x : Tri) (kk : Int) : (stP rows l x kk).length = (rows + 1).toNat:=tab_len _ _
theorem stP_start (rows : Int) (l : List Tri) (x : Tri) : stP rows l x (x.1 + 1) = stB rows l:=tab_congr fun k _=>by
  rw [if_neg (by omega)]; omega
theorem stP_end {rows : Int} {l : List Tri} {i : Nat} {x : Tri} (h : l[i]? = some x) {kk : Int} (hk : rows < kk) : stP rows (l.take i) x kk = stB rows (l.take (i + 1)):=tab_congr fun k hkn=>by
  rw [cntB_more h]
  by_cases hx : x.1 < (k : Int)
  . rw [if_pos ⟨hx,by omega⟩,if_pos hx]; omega
  . rw [if_neg (fun h=>hx h.1),if_neg hx]; omega
theorem stP_get {rows : Int} {l : List Tri} {x : Tri} {kk : Int} (h0 : 0 <= kk) (h1 : kk <= rows) : (stP rows l x kk).getD kk.toNat 0 = (cntB l kk.toNat : Int):=by
  unfold stP
  rw [List.getD_eq_getElem?_getD,tab_get _ (by omega),if_neg (by omega)]
  simp
theorem stP_set {rows : Int} {l : List Tri} {x : Tri} {kk : Int} (h0 : x.1 < kk) (h1 : 0 <= kk) : (stP rows l x kk).set kk.toNat ((cntB l kk.toNat : Int) + 1) = stP rows l x (kk + 1):=by
  refine tab_ext (by rw [List.length_set,stP_len]) fun k hk=>?_
  rw [List.getElem?_set,stP_len]
  by_cases e : kk.toNat = k
  . subst e
    rw [if_pos rfl,if_pos hk,if_pos (by omega)]
  . rw [if_neg e]
    unfold stP
    rw [tab_get _ hk]
    by_cases h : x.1 < (k : Int) /\ (k : Int) < kk
    . rw [if_pos h,if_pos ⟨h.1,by omega⟩]
    . rw [if_neg h,if_neg (by omega)]
theorem zs_val {l : List Int} {q i : Nat} {v : Int} (hq : q = i) (hv : l.getD i 0 = v) (h : i < l.length) : (zs l)[q]? = some [.int .i64 v]:=by
  rw [zs_one hq h,hv]
theorem FoS.threeK {H' : List Blk} {sv res : SV} {b1 b2 b3 : Blk} (k1 k2 k3 : Nat) (n1 : k1 ≠ k2) (n2 : k1 ≠ k3) (n3 : k2 ≠ k3) (h : Mat [some k1,some k2,some k3] res sv) (h1 : H'[k1]? = some b1) (h2 : H'[k2]? = some b2) (h3 : H'[k3]? = some b3) (hp1 : okBlk b1 = true) (hp2 : okBlk b2 = true) (hp3 : okBlk b3 = true) : FoS H' sv res [b1,b2,b3]:=by
  refine ⟨[some k1,some k2,some k3],h,rfl,fun j k' hj=>?_,fun i j k' e1 e2=>?_,by simp [hp1,hp2,hp3]⟩
  . rcases j with _ | _ | _ | j
    . simp at hj; subst hj; simp [h1]
    . simp at hj; subst hj; simp [h2]
    . simp at hj; subst hj; simp [h3]
    . simp at hj
  . rcases i with _ | _ | _ | i <;> rcases j with _ | _ | _ | j <;> simp at e1 e2 <;> first | rfl | omega
theorem FoS.no3 {H' : List Blk} {sv res : SV} {b1 b2 b3 : Blk} (h : Mat [none,none,none] res sv) (hp1 : okBlk b1 = true) (hp2 : okBlk b2 = true) (hp3 : okBlk b3 = true) : FoS H' sv res [b1,b2,b3] :=
  ⟨[none,none,none],h,rfl,fun j k' hj=>by rcases j with _ | _ | _ | j <;> simp at hj,fun i j k' e1 _=>by rcases i with _ | _ | _ | i <;> simp at e1,by simp [hp1,hp2,hp3]⟩
theorem fo_r7Empty (rows cols : Int) (h0 : 0 <= rows) (h1 : rows <= 1000000) : FO Tryz.prog 41 [.int .i64 rows,.int .i64 cols] (.agg [.int .i64 rows,.int .i64 cols,.osl 0 1 0 (rows + 1).toNat,.nils,.nils]) [.arr 1 (zs (List.replicate (rows + 1).toNat 0))]:=by
  refine fo_of_cvc mixed cd_fretworkref07_Empty (by simp) ?_
  repeat' (conv=>whnf); first |(refine And.intro (show _ <= _ from Nat.le_of_ble_eq_true rfl) ?_) | refine And.intro rfl ?_ |(refine And.intro (by omega) ?_) |(refine ⟨_,Or.inl ⟨⟨by omega,by omega⟩,rfl⟩,?_⟩) | fail
  exact Or.inr (Or.inr (FoS.one 1 (MatL.agg (.cons (.same _ rfl) (.cons (.same _ rfl) (.cons (.osl 0 1 1 0 _ rfl) (.cons (.same _ rfl) (.cons (.same _ rfl) .nil)))))) (by rw [zs_rep]; rfl) rfl))
def MO (m : Mat5) : SV:=.agg [.int .i64 m.1,.int .i64 m.2.1,.osl 0 1 0 m.2.2.1.length,.osl 1 1 0 m.2.2.2.1.length,.osl 2 1 0 m.2.2.2.2.length]
def MB (m : Mat5) : List Blk:=[.arr 1 (zs m.2.2.1),.arr 1 (zs m.2.2.2.1),.arr 1 (zs m.2.2.2.2)]
def bM (rows cols : Int) (l : List Tri) : Mat5:=(rows,cols,stB rows l,l.map fun x=>x.2.1,l.map fun x=>x.2.2)
theorem map_more {α : Type} (f : Tri -> α) {l : List Tri} {k : Nat} {x : Tri} (h : l[k]? = some x) : (l.take (k + 1)).map f = (l.take k).map f ++ [f x]:=by
  rw [List.take_add_one,h,List.map_append]; rfl
theorem eds_some {l : List Tri} {k : Nat} (h : k < l.length) : l[k]? = some (l.getD k (0,0,0)):=by simp [h]
theorem zs_append (l m : List Int) : zs (l ++ m) = zs l ++ zs m:=by simp [zs]
def ir_fretworkref07_built : IR :=
(.seq (.reg (⟨some 6,.al [.int .i64 0,.int .i64 0,.nils,.nils,.nils],none⟩::[])) (.seq (.reg (⟨some 10,.mv (.t 0),none⟩::⟨some 11,.mv (.t 1),none⟩::⟨some 12,.call (.c (.fn 41 [])) [(.t 10),(.t 11)],none⟩::⟨some 7,.al [.int .i64 0,.int .i64 0,.nils,.nils,.nils],none⟩::⟨none,.st 5 (.t 7) (.t 12),none⟩::[])) (.seq (.seq (.reg (⟨some 8,.mv (.c (.int .i64 0)),none⟩::[])) (.block 0 (.loop (.seq (.seq (.reg (⟨some 13,.mv (.t 8),none⟩::⟨some 14,.mv (.t 2),none⟩::⟨some 15,.ln (.t 14),none⟩::⟨some 16,.bin .lss (.t 13) (.t 15),none⟩::[])) (.cond (.t 16) .skip (.exit 0))) (.seq (.block 1 (.seq (.draw (⟨some 19,.fa 3 (.t 7),none⟩::⟨some 20,.ld 1 false (.t 19),none⟩::⟨some 21,.mv (.t 2),none⟩::⟨some 22,.mv (.t 8),none⟩::⟨some 23,.ia 3 (.t 21) (.t 22),none⟩::⟨some 24,.fa 1 (.t 23),none⟩::⟨some 25,.ld 1 false (.t 24),none⟩::⟨some 26,.bsl 1 1 [.int .i64 0] [(0,(.t 25))],none⟩::[]) (⟨some 27,.ap 1 8 (.t 20) (.t 26),none⟩::⟨some 28,.fa 3 (.t 7),none⟩::⟨none,.st 1 (.t 28) (.t 27),none⟩::[])) (.seq (.draw (⟨some 29,.fa 4 (.t 7),none⟩::⟨some 30,.ld 1 false (.t 29),none⟩::⟨some 31,.mv (.t 2),none⟩::⟨some 32,.mv (.t 8),none⟩::⟨some 33,.ia 3 (.t 31) (.t 32),none⟩::⟨some 34,.fa 2 (.t 33),none⟩::⟨some 35,.ld 1 false (.t 34),none⟩::⟨some 36,.bsl 1 1 [.int .i64 0] [(0,(.t 35))],none⟩::[]) (⟨some 37,.ap 1 8 (.t 30) (.t 36),none⟩::⟨some 38,.fa 4 (.t 7),none⟩::⟨none,.st 1 (.t 38) (.t 37),none⟩::[])) (.seq (.reg (⟨some 39,.mv (.t 2),none⟩::⟨some 40,.mv (.t 8),none⟩::⟨some 41,.ia 3 (.t 39) (.t 40),none⟩::⟨some 42,.fa 0 (.t 41),none⟩::⟨some 43,.ld 1 false (.t 42),none⟩::⟨some 44,.bin .add (.t 43) (.c (.int .i64 1)),none⟩::⟨some 9,.mv (.t 44),none⟩::[])) (.block 2 (.loop (.seq (.seq (.reg (⟨some 45,.mv (.t 9),none⟩::⟨some 46,.mv (.t 0),none⟩::⟨some 47,.bin .leq (.t 45) (.t 46),none⟩::[])) (.cond (.t 47) .skip (.exit 2))) (.seq (.block 3 (.reg (⟨some 50,.fa 2 (.t 7),none⟩::⟨some 51,.ld 1 false (.t 50),none⟩::⟨some 52,.mv (.t 9),none⟩::⟨some 53,.ia 1 (.t 51) (.t 52),none⟩::⟨some 54,.ld 1 false (.t 53),none⟩::⟨some 55,.bin .add (.t 54) (.c (.int .i64 1)),none⟩::⟨some 56,.ia 1 (.t 51) (.t 52),none⟩::⟨none,.st 1 (.t 56) (.t 55),none⟩::[]))) (.reg (⟨some 48,.mv (.t 9),none⟩::⟨some 49,.bin .add (.t 48) (.c (.int .i64 1)),none⟩::⟨some 9,.mv (.t 49),none⟩::[])))))))))) (.reg (⟨some 17,.mv (.t 8),none⟩::⟨some 18,.bin .add (.t 17) (.c (.int .i64 1)),none⟩::⟨some 8,.mv (.t 18),none⟩::[]))))))) (.seq (.reg (⟨some 57,.ld 5 true (.t 7),none⟩::⟨none,.st 5 (.t 6) (.t 57),none⟩::[])) .ret))))
theorem cd_fretworkref07_built : Code1 Tryz.prog 75 58 ir_fretworkref07_built [.c 5 true 6]:=⟨Tryz.call75,_,_,Tryz.func75,rfl,by kernel_rfl,by kernel_rfl,by kernel_rfl,by kernel_rfl⟩
set_option maxHeartbeats 8000000 in
theorem fo_r7built (rows cols : Int) (l : List Tri) (h0 : 0 <= rows) (h1 : rows <= 1000000) (hl : l.length <= 1000000) (hr : ∀ x ∈ l,0 <= x.1 /\ x.1 < rows) : FO Tryz.prog 75 [.int .i64 rows,.int .i64 cols,EL l] (MO (bM rows cols l)) (MB (bM rows cols l)):=by
  refine fo_of_cvc mixed cd_fretworkref07_built (by simp) ?_
  have c1:=fo_r7Empty rows cols h0 h1
  have hel:=eds_len l
  repeat' (conv=>whnf); first |(refine Or.inr (Or.inl ⟨by rfl,_,_,c1,?_⟩)) |(refine And.intro (show _ <= _ from Nat.le_of_ble_eq_true rfl) ?_) | refine And.intro rfl ?_ | fail
  refine ⟨Nat,fun i=>i <= l.length,fun i=>[(0,.int .i64 rows),(2,EL l),(6,.ptr 0 0 0 0),(7,.ptr 2 0 0 0),(8,.int .i64 (i : Int))],fun i=>[.vars [.int .i64 0,.int .i64 0,.nils,.nils,.nils],.arr 1 (zs (stB rows (l.take i))),.vars [.int .i64 rows,.int .i64 cols,.osl 1 1 0 (rows + 1).toNat,.osl 3 1 0 i,.osl 4 1 0 i],.arr 1 (zs ((l.take i).map fun x=>x.2.1)),.arr 1 (zs ((l.take i).map fun x=>x.2.2))],fun _=>none,fun i=>l.length - i,
    ⟨0,Nat.zero_le _,⟨rfl,rfl,rfl,rfl,rfl,trivial⟩,⟨⟨rfl,rfl,rfl,rfl,rfl,trivial⟩,?_,⟨rfl,rfl,rfl,⟨Nat.le_of_ble_eq_true rfl,rfl,rfl⟩,⟨Nat.le_of_ble_eq_true rfl,rfl,rfl⟩,trivial⟩,rfl,rfl,trivial⟩,rfl⟩,fun i hi=>?_⟩
  . refine congrArg (fun l=>Blk.arr 1 (zs l)) ?_
    exact tab_ext (by simp) fun k hk=>by simp [cntB,hk]
  have hi : i <= l.length:=hi
  have hz1 : (zs ((l.take i).map fun x=>x.2.1)).length = i:=by rw [zs_len,List.length_map,List.length_take]; omega
  have hz2 : (zs ((l.take i).map fun x=>x.2.2)).length = i:=by rw [zs_len,List.length_map,List.length_take]; omega
  have hz3:=stB_len rows (l.take i)
  by_cases hil : i < l.length
  . obtain ⟨x,hx⟩ : ∃ x,l.getD i (0,0,0) = x:=⟨_,rfl⟩
    have hxi : l[i]? = some x:=by rw [<- hx]; exact eds_some hil
    have hxr:=hr x (List.mem_of_getElem? hxi)
    have hst0:=stP_start rows (l.take i) x
    have hm1:=map_more (fun x=>x.2.1) hxi
    have hm2:=map_more (fun x=>x.2.2) hxi
    have hlt : (l.take i).length <= 1000000:=by simp; omega
    repeat' (conv=>whnf); first |(refine eds_is' (i:=i) (by omega) hx ?_) |(refine And.intro (Or.inl (Nat.zero_le _)) ?_) |(refine And.intro (show _ <= _ from Nat.le_of_ble_eq_true rfl) ?_) |((refine And.intro (by intro y hy; simp at hy; subst hy; rfl) ?_)) |(refine Br.dec (fun h=>?_) (fun h=>?_)) <;> try (exfalso; omega) | refine And.intro rfl ?_ |(refine And.intro (by omega) ?_) |(refine ⟨_,Or.inl ⟨⟨by omega,by omega⟩,rfl⟩,?_⟩) |(refine And.intro (by simp only [lens_all,eds_len]; first | done | omega) ?_) | fail
    refine ⟨Int,fun kk=>x.1 < kk /\ kk <= rows + 1,fun kk=>[(0,.int .i64 rows),(2,EL l),(6,.ptr 0 0 0 0),(7,.ptr 2 0 0 0),(8,.int .i64 (i : Int)),(9,.int .i64 kk)],fun kk=>[.vars [.int .i64 0,.int .i64 0,.nils,.nils,.nils],.arr 1 (zs (stP rows (l.take i) x kk)),.vars [.int .i64 rows,.int .i64 cols,.osl 1 1 0 (rows + 1).toNat,.osl 3 1 0 (i + 1),.osl 4 1 0 (i + 1)],.arr 1 (zs ((l.take (i + 1)).map fun x=>x.2.1)),.arr 1 (zs ((l.take (i + 1)).map fun x=>x.2.2))],fun _=>none,fun kk=>(rows + 1 - kk).toNat,
      ⟨x.1 + 1,⟨by omega,by omega⟩,⟨rfl,rfl,rfl,rfl,rfl,rfl,trivial⟩,⟨⟨rfl,rfl,rfl,rfl,rfl,trivial⟩,?_,⟨rfl,rfl,rfl,rfl,rfl,trivial⟩,?_,?_,trivial⟩,rfl⟩,fun kk hk=>?_⟩
    . exact congrArg (fun l=>Blk.arr 1 (zs l)) hst0.symm
    . refine congrArg (Blk.arr 1) ?_
      rw [hm1,zs_append]; rfl
    . refine congrArg (Blk.arr 1) ?_
      rw [hm2,zs_append]; rfl
    obtain ⟨hk1,hk2⟩:=hk
    by_cases hkr : kk <= rows
    . have hg:=stP_get (rows:=rows) (l:=l.take i) (x:=x) (kk:=kk) (by omega) hkr
      have hpl:=stP_len rows (l.take i) x kk
      have hzp:=zs_len (stP rows (l.take i) x kk)
      have hcb:=cntB_le (l.take i) kk.toNat
      have hset:=stP_set (rows:=rows) (l:=l.take i) (x:=x) (kk:=kk) hk1 (by omega)
      generalize cntB (l.take i) kk.toNat = c at *
      repeat' (conv=>whnf); first |(refine ⟨_,zs_val (i:=kk.toNat) (by omega) hg (by omega),?_⟩) |(refine And.intro (show _ <= _ from Nat.le_of_ble_eq_true rfl) ?_) |(refine Br.dec (fun h=>?_) (fun h=>?_)) <;> try (exfalso; omega) | refine And.intro rfl ?_ |(refine And.intro (by omega) ?_) |(refine ⟨_,Or.inl ⟨⟨by omega,by omega⟩,rfl⟩,?_⟩) | fail
      refine ⟨kk + 1,⟨by omega,by omega⟩,(show (rows + 1 - (kk + 1)).toNat < (rows + 1 - kk).toNat by omega),⟨rfl,rfl,rfl,rfl,rfl,rfl,trivial⟩,⟨⟨rfl,rfl,rfl,rfl,rfl,trivial⟩,?_,⟨rfl,rfl,rfl,rfl,rfl,trivial⟩,rfl,rfl,trivial⟩,rfl⟩
      rw [<- hset,<- zs_set]
      show Blk.arr 1 ((zs (stP rows (l.take i) x kk)).set (0 + kk.toNat) _) = _
      rw [Nat.zero_add]; rfl
    . have he:=stP_end hxi (show rows < kk by omega)
      repeat' (conv=>whnf); first |(refine Br.dec (fun h=>?_) (fun h=>?_)) <;> try (exfalso; omega) | refine And.intro rfl ?_ |(refine ⟨_,Or.inl ⟨⟨by omega,by omega⟩,rfl⟩,?_⟩) | fail
      refine ⟨i + 1,(show i + 1 <= l.length by omega),(show l.length - (i + 1) < l.length - i by omega),⟨rfl,rfl,rfl,rfl,rfl,trivial⟩,⟨⟨rfl,rfl,rfl,rfl,rfl,trivial⟩,?_,⟨rfl,rfl,rfl,rfl,rfl,trivial⟩,rfl,rfl,trivial⟩,rfl⟩
      rw [<- he]; rfl
  . obtain rfl : i = l.length:=by omega
    repeat' (conv=>whnf); first |(refine And.intro (show _ <= _ from Nat.le_of_ble_eq_true rfl) ?_) |(refine Br.dec (fun h=>?_) (fun h=>?_)) <;> try (exfalso; omega) | refine And.intro rfl ?_ | fail
    conv=>whnf
    have e1 : l.take l.length = l:=List.take_length
    rw [e1]
    have e2 : (bM rows cols l).2.2.1.length = (rows + 1).toNat:=stB_len _ _
    have e3 : (bM rows cols l).2.2.2.1.length = l.length:=by simp [bM]
    have e4 : (bM rows cols l).2.2.2.2.length = l.length:=by simp [bM]
    unfold MO
    rw [e2,e3,e4]
    exact Or.inr (Or.inr (FoS.threeK 1 3 4 (by decide) (by decide) (by decide) (MatL.agg (.cons (.same _ rfl) (.cons (.same _ rfl) (.cons (.osl 0 1 1 0 _ rfl) (.cons (.osl 1 3 1 0 _ rfl) (.cons (.osl 2 4 1 0 _ rfl) .nil)))))) rfl rfl rfl rfl rfl rfl))
end
section
open Go.RowKit
attribute [local irreducible] FS FO IT HS
/-! ### What is combined has the places that came in -/
theorem cStep_mem {r : Int} {E : List Tri} {S : List Int} {x : Tri} {Q : Int -> Int -> Prop} (hE : ∀ e ∈ E,Q e.1 e.2.1) (hx : Q x.1 x.2.1) : ∀ e ∈ (cStep r (E,S) x).1,Q e.1 e.2.1:=by
  intro e he
  unfold cStep at he
  split at he
  . exact hE e he
  . rcases List.mem_append.1 he with he | he
    . exact hE e (List.mem_of_mem_take he)
    . rcases List.mem_cons.1 he with he | he
      . subst he; exact hx
      . exact hE e (List.mem_of_mem_drop he)
theorem cmb_mem {r : Int} {Q : Int -> Int -> Prop} : ∀ (l E : List Tri) (S : List Int),(∀ e ∈ E,Q e.1 e.2.1) -> (∀ x ∈ l,Q x.1 x.2.1) -> ∀ e ∈ (l.foldl (cStep r) (E,S)).1,Q e.1 e.2.1
  | [],_,_,hE,_=>hE
  | x::l,E,S,hE,hl=>cmb_mem l (cStep r (E,S) x).1 (cStep r (E,S) x).2 (cStep_mem hE (hl x List.mem_cons_self)) fun y hy=>hl y (List.mem_cons_of_mem _ hy)
theorem nrE_mem {E : List Tri} {S : List Int} {k : Nat} {Q : Int -> Int -> Prop} (h : ∀ e ∈ E,Q e.1 e.2.1) : ∀ e ∈ nrE E S k,Q e.1 e.2.1:=by
  intro e he
  obtain ⟨i,hi,rfl⟩:=List.mem_map.1 he
  have hi:=List.mem_range.1 hi
  have : E.getD i (0,0,0) ∈ E:=by simp [hi]
  exact (show Q _ _ from h (E.getD i (0,0,0)) this)
theorem cmbR_mem {r : Int} {l : List Tri} {Q : Int -> Int -> Prop} (h : ∀ x ∈ l,Q x.1 x.2.1) : ∀ e ∈ (cmbR r l).1,Q e.1 e.2.1:=by
  unfold cmbR
  split
  . split
    . exact nrE_mem (cmb_mem l [] [] (fun e he=>by cases he) h)
    . intro e he; cases he
  . intro e he; cases he
def inM (rows cols : Int) (x : Tri) : Bool:=decide (0 <= x.1 /\ x.1 < rows /\ 0 <= x.2.1 /\ x.2.1 < cols)
def noM : Mat5:=(0,0,[],[],[])
def ofM (r rows cols : Int) (l : List Tri) : Mat5 × Int :=
  if isR r = true then
    (if 0 ≤ rows ∧ rows ≤ 4096 ∧ 0 ≤ cols ∧ cols ≤ 4096 then
      (if l.length <= 65536 then
        (if l.all (inM rows cols) = true then (if (cmbR r l).2 = 0 then (bM rows cols (cmbR r l).1,0) else (noM,(cmbR r l).2)) else (noM,3))
      else (noM,5))
    else (noM,3))
  else (noM,8)
def TO (x : Mat5 × Int) : SV:=.tup [MO x.1,.int .i64 x.2]
theorem fop_no {H' : List Blk} {e : Int} : FoP H' (.tup [.agg [.int .i64 0,.int .i64 0,.nils,.nils,.nils],.int .i64 e]) (TO (noM,e)) (MB noM) :=
  Or.inr (Or.inr (FoS.no3 (MatL.tup (.cons (MatL.agg (.cons (.same _ rfl) (.cons (.same _ rfl) (.cons (.nil 0 1) (.cons (.nil 1 1) (.cons (.nil 2 1) .nil)))))) (.cons (.same _ rfl) .nil))) rfl rfl rfl))
theorem zs_loose1 (l : List Int) : Blk.loose (.arr 1 (zs l)):=by
  intro x hx
  obtain ⟨y,_,rfl⟩:=List.mem_map.1 hx
  rfl
theorem mb_loose (m : Mat5) : ∀ b ∈ MB m,Blk.loose b:=fun b hb=>by
  simp only [MB,List.mem_cons,List.not_mem_nil,or_false] at hb
  rcases hb with rfl | rfl | rfl <;> exact zs_loose1 _
def ir_fretworkref07_Of : IR :=
(.seq (.reg (⟨some 8,.al [.int .i64 0,.int .i64 0,.nils,.nils,.nils],none⟩::⟨some 9,.mv (.c (.int .i64 0)),none⟩::[])) (.seq (.seq (.reg (⟨some 15,.mv (.t 0),none⟩::⟨some 16,.call (.c (.fn 73 [])) [(.t 15)],none⟩::⟨some 17,.un .not (.t 16),none⟩::[])) (.cond (.t 17) (.seq (.reg (⟨some 18,.bld [.int .i64 0,.int .i64 0,.nils,.nils,.nils] [],none⟩::⟨none,.st 5 (.t 8) (.t 18),none⟩::⟨some 9,.mv (.c (.int .i64 8)),none⟩::[])) .ret) .skip)) (.seq (.seq (.reg (⟨some 19,.mv (.t 1),none⟩::⟨some 20,.bin .lss (.t 19) (.c (.int .i64 0)),none⟩::⟨some 21,.mv (.t 20),none⟩::⟨some 22,.mv (.t 1),some (21,false)⟩::⟨some 23,.bin .gtr (.t 22) (.c (.int .i64 4096)),some (21,false)⟩::⟨some 24,.pick (.t 21) (.c (.bool true)) (.t 23),none⟩::⟨some 25,.mv (.t 24),none⟩::⟨some 26,.mv (.t 2),some (25,false)⟩::⟨some 27,.bin .lss (.t 26) (.c (.int .i64 0)),some (25,false)⟩::⟨some 28,.pick (.t 25) (.c (.bool true)) (.t 27),none⟩::⟨some 29,.mv (.t 28),none⟩::⟨some 30,.mv (.t 2),some (29,false)⟩::⟨some 31,.bin .gtr (.t 30) (.c (.int .i64 4096)),some (29,false)⟩::⟨some 32,.pick (.t 29) (.c (.bool true)) (.t 31),none⟩::[])) (.cond (.t 32) (.seq (.reg (⟨some 33,.bld [.int .i64 0,.int .i64 0,.nils,.nils,.nils] [],none⟩::⟨none,.st 5 (.t 8) (.t 33),none⟩::⟨some 9,.mv (.c (.int .i64 3)),none⟩::[])) .ret) .skip)) (.seq (.seq (.reg (⟨some 34,.mv (.t 3),none⟩::⟨some 35,.ln (.t 34),none⟩::⟨some 36,.bin .gtr (.t 35) (.c (.int .i64 65536)),none⟩::[])) (.cond (.t 36) (.seq (.reg (⟨some 37,.bld [.int .i64 0,.int .i64 0,.nils,.nils,.nils] [],none⟩::⟨none,.st 5 (.t 8) (.t 37),none⟩::⟨some 9,.mv (.c (.int .i64 5)),none⟩::[])) .ret) .skip)) (.seq (.reg (⟨some 10,.mv (.c (.nils)),none⟩::[])) (.seq (.seq (.reg (⟨some 11,.mv (.c (.int .i64 0)),none⟩::[])) (.block 0 (.loop (.seq (.seq (.reg (⟨some 38,.mv (.t 11),none⟩::⟨some 39,.mv (.t 3),none⟩::⟨some 40,.ln (.t 39),none⟩::⟨some 41,.bin .lss (.t 38) (.t 40),none⟩::[])) (.cond (.t 41) .skip (.exit 0))) (.seq (.block 1 (.seq (.seq (.reg (⟨some 44,.mv (.t 3),none⟩::⟨some 45,.mv (.t 11),none⟩::⟨some 46,.ia 3 (.t 44) (.t 45),none⟩::⟨some 47,.fa 0 (.t 46),none⟩::⟨some 48,.ld 1 false (.t 47),none⟩::⟨some 49,.bin .lss (.t 48) (.c (.int .i64 0)),none⟩::⟨some 50,.mv (.t 49),none⟩::⟨some 51,.mv (.t 3),some (50,false)⟩::⟨some 52,.mv (.t 11),some (50,false)⟩::⟨some 53,.ia 3 (.t 51) (.t 52),some (50,false)⟩::⟨some 54,.fa 0 (.t 53),some (50,false)⟩::⟨some 55,.ld 1 false (.t 54),some (50,false)⟩::⟨some 56,.mv (.t 1),some (50,false)⟩::⟨some 57,.bin .geq (.t 55) (.t 56),some (50,false)⟩::⟨some 58,.pick (.t 50) (.c (.bool true)) (.t 57),none⟩::⟨some 59,.mv (.t 58),none⟩::⟨some 60,.mv (.t 3),some (59,false)⟩::⟨some 61,.mv (.t 11),some (59,false)⟩::⟨some 62,.ia 3 (.t 60) (.t 61),some (59,false)⟩::⟨some 63,.fa 1 (.t 62),some (59,false)⟩::⟨some 64,.ld 1 false (.t 63),some (59,false)⟩::⟨some 65,.bin .lss (.t 64) (.c (.int .i64 0)),some (59,false)⟩::⟨some 66,.pick (.t 59) (.c (.bool true)) (.t 65),none⟩::⟨some 67,.mv (.t 66),none⟩::⟨some 68,.mv (.t 3),some (67,false)⟩::⟨some 69,.mv (.t 11),some (67,false)⟩::⟨some 70,.ia 3 (.t 68) (.t 69),some (67,false)⟩::⟨some 71,.fa 1 (.t 70),some (67,false)⟩::⟨some 72,.ld 1 false (.t 71),some (67,false)⟩::⟨some 73,.mv (.t 2),some (67,false)⟩::⟨some 74,.bin .geq (.t 72) (.t 73),some (67,false)⟩::⟨some 75,.pick (.t 67) (.c (.bool true)) (.t 74),none⟩::[])) (.cond (.t 75) (.seq (.reg (⟨some 76,.bld [.int .i64 0,.int .i64 0,.nils,.nils,.nils] [],none⟩::⟨none,.st 5 (.t 8) (.t 76),none⟩::⟨some 9,.mv (.c (.int .i64 3)),none⟩::[])) .ret) .skip)) (.draw (⟨some 77,.mv (.t 10),none⟩::⟨some 78,.mv (.t 3),none⟩::⟨some 79,.mv (.t 11),none⟩::⟨some 80,.ia 3 (.t 78) (.t 79),none⟩::⟨some 81,.fa 0 (.t 80),none⟩::⟨some 82,.ld 1 false (.t 81),none⟩::⟨some 83,.mv (.t 3),none⟩::⟨some 84,.mv (.t 11),none⟩::⟨some 85,.ia 3 (.t 83) (.t 84),none⟩::⟨some 86,.fa 1 (.t 85),none⟩::⟨some 87,.ld 1 false (.t 86),none⟩::⟨some 88,.mv (.t 3),none⟩::⟨some 89,.mv (.t 11),none⟩::⟨some 90,.ia 3 (.t 88) (.t 89),none⟩::⟨some 91,.fa 2 (.t 90),none⟩::⟨some 92,.ld 1 false (.t 91),none⟩::⟨some 93,.bld [.int .i64 0,.int .i64 0,.int .i64 0] [(0,1,(.t 82)),(1,1,(.t 87)),(2,1,(.t 92))],none⟩::⟨some 94,.bsl 1 3 [.int .i64 0,.int .i64 0,.int .i64 0] [(0,(.t 93))],none⟩::[]) (⟨some 95,.ap 3 24 (.t 77) (.t 94),none⟩::⟨some 10,.mv (.t 95),none⟩::[])))) (.reg (⟨some 42,.mv (.t 11),none⟩::⟨some 43,.bin .add (.t 42) (.c (.int .i64 1)),none⟩::⟨some 11,.mv (.t 43),none⟩::[]))))))) (.seq (.reg (⟨some 97,.mv (.t 0),none⟩::⟨some 98,.mv (.t 10),none⟩::⟨some 99,.call (.c (.fn 74 [])) [(.t 97),(.t 98)],none⟩::⟨some 96,.mv (.t 99),none⟩::⟨some 100,.ex 0 (.t 96),none⟩::⟨some 101,.ex 1 (.t 96),none⟩::⟨some 10,.mv (.t 100),none⟩::⟨some 12,.mv (.t 101),none⟩::[])) (.seq (.seq (.reg (⟨some 102,.mv (.t 12),none⟩::⟨some 103,.bin .neq (.t 102) (.c (.int .i64 0)),none⟩::[])) (.cond (.t 103) (.seq (.reg (⟨some 104,.bld [.int .i64 0,.int .i64 0,.nils,.nils,.nils] [],none⟩::⟨some 105,.mv (.t 12),none⟩::⟨none,.st 5 (.t 8) (.t 104),none⟩::⟨some 9,.mv (.t 105),none⟩::[])) .ret) .skip)) (.seq (.reg (⟨some 13,.mv (.c (.nils)),none⟩::[])) (.seq (.seq (.reg (⟨some 14,.mv (.c (.int .i64 0)),none⟩::[])) (.block 2 (.loop (.seq (.seq (.reg (⟨some 106,.mv (.t 14),none⟩::⟨some 107,.mv (.t 10),none⟩::⟨some 108,.ln (.t 107),none⟩::⟨some 109,.bin .lss (.t 106) (.t 108),none⟩::[])) (.cond (.t 109) .skip (.exit 2))) (.seq (.block 3 (.draw (⟨some 112,.mv (.t 13),none⟩::⟨some 113,.mv (.t 10),none⟩::⟨some 114,.mv (.t 14),none⟩::⟨some 115,.ia 3 (.t 113) (.t 114),none⟩::⟨some 116,.fa 0 (.t 115),none⟩::⟨some 117,.ld 1 false (.t 116),none⟩::⟨some 118,.mv (.t 10),none⟩::⟨some 119,.mv (.t 14),none⟩::⟨some 120,.ia 3 (.t 118) (.t 119),none⟩::⟨some 121,.fa 1 (.t 120),none⟩::⟨some 122,.ld 1 false (.t 121),none⟩::⟨some 123,.mv (.t 10),none⟩::⟨some 124,.mv (.t 14),none⟩::⟨some 125,.ia 3 (.t 123) (.t 124),none⟩::⟨some 126,.fa 2 (.t 125),none⟩::⟨some 127,.ld 1 false (.t 126),none⟩::⟨some 128,.bld [.int .i64 0,.int .i64 0,.int .i64 0] [(0,1,(.t 117)),(1,1,(.t 122)),(2,1,(.t 127))],none⟩::⟨some 129,.bsl 1 3 [.int .i64 0,.int .i64 0,.int .i64 0] [(0,(.t 128))],none⟩::[]) (⟨some 130,.ap 3 24 (.t 112) (.t 129),none⟩::⟨some 13,.mv (.t 130),none⟩::[]))) (.reg (⟨some 110,.mv (.t 14),none⟩::⟨some 111,.bin .add (.t 110) (.c (.int .i64 1)),none⟩::⟨some 14,.mv (.t 111),none⟩::[]))))))) (.seq (.reg (⟨some 131,.mv (.t 1),none⟩::⟨some 132,.mv (.t 2),none⟩::⟨some 133,.mv (.t 13),none⟩::⟨some 134,.call (.c (.fn 75 [])) [(.t 131),(.t 132),(.t 133)],none⟩::⟨none,.st 5 (.t 8) (.t 134),none⟩::⟨some 9,.mv (.c (.int .i64 0)),none⟩::[])) .ret)))))))))))
theorem cd_fretworkref07_Of : Code1 Tryz.prog 40 135 ir_fretworkref07_Of [.c 5 true 8,.t 9]:=⟨Tryz.call40,_,_,Tryz.func40,rfl,by kernel_rfl,by kernel_rfl,by kernel_rfl,by kernel_rfl⟩
set_option maxHeartbeats 8000000 in
theorem fo_r7Of (r rows cols : Int) (l : List Tri) (hb : ∀ x ∈ l,I64 x.2.2) : FO Tryz.prog 40 [.int .i64 r,.int .i64 rows,.int .i64 cols,EL l] (TO (ofM r rows cols l)) (MB (ofM r rows cols l).1):=by
  refine fo_of_cvc mixed cd_fretworkref07_Of (by simp) ?_
  have c1:=fs_r2Is r
  have hll:=eds_len l
  obtain ⟨t,ht⟩ : ∃ t,ofM r rows cols l = t:=⟨_,rfl⟩
  rw [ht]
  unfold ofM at ht
  cases hR : isR r with
  | false =>
    rw [hR] at ht c1
    rw [if_neg (by simp)] at ht
    subst ht
    repeat' (conv=>whnf); first |(refine Or.inl ⟨by rfl,_,c1,?_⟩) |(refine And.intro (show _ <= _ from Nat.le_of_ble_eq_true rfl) ?_) | refine Br.tt ?_ | refine And.intro rfl ?_ | fail
    exact fop_no
  | true =>
    rw [hR] at ht c1
    rw [if_pos rfl] at ht
    by_cases hn : 0 <= rows /\ rows <= 4096 /\ 0 <= cols /\ cols <= 4096
    . have hn':=hn
      obtain ⟨hn1,hn2,hn3,hn4⟩:=hn'
      rw [if_pos hn] at ht
      by_cases hle : l.length <= 65536
      . rw [if_pos hle] at ht
        repeat' (conv=>whnf); first |(refine Or.inl ⟨by rfl,_,c1,?_⟩) | refine Br.ff ?_ |(refine Br.dec (fun h=>?_) (fun h=>?_)) <;> try (exfalso; omega) | refine And.intro rfl ?_ | fail
        refine ⟨Nat,fun k=>k <= l.length /\ (l.take k).all (inM rows cols) = true,fun k=>[(0,.int .i64 r),(1,.int .i64 rows),(2,.int .i64 cols),(3,EL l),(8,.ptr 0 0 0 0),(10,.osl 1 3 0 k),(11,.int .i64 (k : Int))],fun k=>[.vars [.int .i64 0,.int .i64 0,.nils,.nils,.nils],.arr 3 (eds (l.take k))],fun _=>none,fun k=>l.length - k,
          ⟨0,⟨Nat.zero_le _,rfl⟩,⟨rfl,rfl,rfl,rfl,rfl,⟨Nat.le_refl _,rfl,rfl⟩,rfl,trivial⟩,⟨⟨rfl,rfl,rfl,rfl,rfl,trivial⟩,rfl,trivial⟩,rfl⟩,fun k hk=>?_⟩
        obtain ⟨hk1,hk2⟩:=hk
        have hkt : (eds (l.take k)).length = k:=by rw [eds_len,List.length_take]; omega
        by_cases hkl : k < l.length
        . obtain ⟨x,hx⟩ : ∃ x,l.getD k (0,0,0) = x:=⟨_,rfl⟩
          have hxk : l[k]? = some x:=by rw [<- hx]; exact eds_some hkl
          have hst : l.take (k + 1) = l.take k ++ [x]:=by rw [List.take_add_one,hxk]; rfl
          by_cases hin : 0 <= x.1 /\ x.1 < rows /\ 0 <= x.2.1 /\ x.2.1 < cols
          . repeat' (conv=>whnf); first |(refine eds_is' (i:=k) (by omega) hx ?_) |(refine And.intro (Or.inl (Nat.zero_le _)) ?_) |(refine And.intro (show _ <= _ from Nat.le_of_ble_eq_true rfl) ?_) |((refine And.intro (by intro y hy; simp at hy; subst hy; rfl) ?_)) | refine Br.ff ?_ |(refine Br.dec (fun h=>?_) (fun h=>?_)) <;> try (exfalso; omega) | refine And.intro rfl ?_ |(refine And.intro (by omega) ?_) |(refine ⟨_,Or.inl ⟨⟨by omega,by omega⟩,rfl⟩,?_⟩) |(refine And.intro (by simp only [lens_all,eds_len]; first | done | omega) ?_) | fail
            refine ⟨k + 1,⟨by omega,?_⟩,(show l.length - (k + 1) < l.length - k by omega),⟨rfl,rfl,rfl,rfl,rfl,rfl,rfl,trivial⟩,⟨⟨rfl,rfl,rfl,rfl,rfl,trivial⟩,?_,trivial⟩,rfl⟩
            . rw [hst,List.all_append,hk2]
              simp [inM,hin]
            . rw [hst,eds_append]; rfl
          . have e3 : (noM,3) = t:=by
              rw [<- ht,if_neg]
              intro h'
              have:=List.all_eq_true.1 h' x (List.mem_of_getElem? hxk)
              exact hin (of_decide_eq_true this)
            subst e3
            repeat' (conv=>whnf); first |(refine eds_is' (i:=k) (by omega) hx ?_) |(refine And.intro (show _ <= _ from Nat.le_of_ble_eq_true rfl) ?_) | refine Br.tt ?_ | refine Br.ff ?_ |(refine Br.dec (fun h=>?_) (fun h=>?_)) <;> try (exfalso; omega) | refine And.intro rfl ?_ |(refine And.intro (by omega) ?_) | fail
            all_goals exact fop_no
        . obtain rfl : k = l.length:=by omega
          rw [List.take_length] at hk2
          rw [if_pos hk2] at ht
          have c5:=fo_r5Combine r l (by omega) hb
          have hlen:=cmbR_len r l
          have hmem:=cmbR_mem (r:=r) (l:=l) (Q:=fun a b=>0 <= a /\ a < rows) fun x hx=>by
            have:=of_decide_eq_true (List.all_eq_true.1 hk2 x hx)
            exact ⟨this.1,this.2.1⟩
          obtain ⟨c,hc⟩ : ∃ c,cmbR r l = c:=⟨_,rfl⟩
          rw [hc] at ht c5 hlen hmem
          have hcl:=eds_len c.1
          have c6 : FO Tryz.prog 74 [.int .i64 r,.slc 3 (eds (l.take l.length))] (.tup [.osl 0 3 0 c.1.length,.int .i64 c.2]) [.arr 3 (eds c.1)]:=by rw [List.take_length]; exact c5
          by_cases hc0 : c.2 = 0
          . rw [if_pos hc0] at ht
            repeat' (conv=>whnf); first |(refine Or.inr (Or.inr (Or.inr (Or.inr (Or.inl (frz_own2 rfl (by rfl) hkt.symm rfl ⟨_,_,c6,rfl,eds_loose _,?_⟩)))))) |(refine Br.dec (fun h=>?_) (fun h=>?_)) <;> try (exfalso; omega) | refine And.intro rfl ?_ | fail
            refine ⟨Nat,fun k=>k <= c.1.length,fun k=>[(1,.int .i64 rows),(2,.int .i64 cols),(8,.ptr 0 0 0 0),(10,.osl 2 3 0 c.1.length),(13,.osl 3 3 0 k),(14,.int .i64 (k : Int))],fun k=>[.vars [.int .i64 0,.int .i64 0,.nils,.nils,.nils],.dead,.arr 3 (eds c.1),.arr 3 (eds (c.1.take k))],fun _=>none,fun k=>c.1.length - k,
              ⟨0,Nat.zero_le _,⟨rfl,rfl,rfl,rfl,⟨Nat.le_refl _,rfl,rfl⟩,rfl,trivial⟩,⟨⟨rfl,rfl,rfl,rfl,rfl,trivial⟩,trivial,rfl,rfl,trivial⟩,rfl⟩,fun k hk=>?_⟩
            have hk : k <= c.1.length:=hk
            have hkt2 : (eds (c.1.take k)).length = k:=by rw [eds_len,List.length_take]; omega
            by_cases hkc : k < c.1.length
            . have hst : c.1.take (k + 1) = c.1.take k ++ [c.1.getD k (0,0,0)]:=by rw [List.take_add_one]; simp [hkc]
              repeat' (conv=>whnf); first |(refine ⟨_,eds_at c.1 (j:=k) (by omega) (by omega),?_⟩) |(refine And.intro (Or.inl (Nat.zero_le _)) ?_) |(refine And.intro (show _ <= _ from Nat.le_of_ble_eq_true rfl) ?_) |((refine And.intro (by intro y hy; simp at hy; subst hy; rfl) ?_)) |(refine Br.dec (fun h=>?_) (fun h=>?_)) <;> try (exfalso; omega) | refine And.intro rfl ?_ |(refine And.intro (by omega) ?_) |(refine ⟨_,Or.inl ⟨⟨by omega,by omega⟩,rfl⟩,?_⟩) |(refine And.intro (by simp only [lens_all]; first | done | omega) ?_) | fail
              refine ⟨k + 1,(show k + 1 <= c.1.length by omega),(show c.1.length - (k + 1) < c.1.length - k by omega),⟨rfl,rfl,rfl,rfl,rfl,rfl,trivial⟩,⟨⟨rfl,rfl,rfl,rfl,rfl,trivial⟩,trivial,rfl,?_,trivial⟩,rfl⟩
              rw [hst,eds_append]; rfl
            . obtain rfl : k = c.1.length:=by omega
              subst ht
              have c7:=fo_r7built rows cols c.1 hn1 (by omega) (by omega) hmem
              have c8 : FO Tryz.prog 75 [.int .i64 rows,.int .i64 cols,.slc 3 (eds (c.1.take c.1.length))] (MO (bM rows cols c.1)) (MB (bM rows cols c.1)):=by rw [List.take_length]; exact c7
              unfold MO at c8
              repeat' (conv=>whnf); first |(refine Or.inr (Or.inr (Or.inr (Or.inr (Or.inl (frz_own3 rfl rfl (by rfl) hkt2.symm rfl ⟨_,_,c8,rfl,mb_loose _,?_⟩)))))) |(refine And.intro (show _ <= _ from Nat.le_of_ble_eq_true rfl) ?_) |(refine Br.dec (fun h=>?_) (fun h=>?_)) <;> try (exfalso; omega) | refine And.intro rfl ?_ | fail
              exact Or.inr (Or.inr (FoS.threeK 4 5 6 (by decide) (by decide) (by decide) (MatL.tup (.cons (MatL.agg (.cons (.same _ rfl) (.cons (.same _ rfl) (.cons (.osl 0 4 1 0 _ rfl) (.cons (.osl 1 5 1 0 _ rfl) (.cons (.osl 2 6 1 0 _ rfl) .nil)))))) (.cons (.same _ rfl) .nil))) rfl rfl rfl rfl rfl rfl))
          . rw [if_neg hc0] at ht
            subst ht
            repeat' (conv=>whnf); first |(refine Or.inr (Or.inr (Or.inr (Or.inr (Or.inl (frz_own2 rfl (by rfl) hkt.symm rfl ⟨_,_,c6,rfl,eds_loose _,?_⟩)))))) |(refine And.intro (show _ <= _ from Nat.le_of_ble_eq_true rfl) ?_) |(refine Br.dec (fun h=>?_) (fun h=>?_)) <;> try (exfalso; omega) | refine And.intro rfl ?_ | fail
            exact fop_no
      . rw [if_neg hle] at ht
        subst ht
        repeat' (conv=>whnf); first |(refine Or.inl ⟨by rfl,_,c1,?_⟩) |(refine And.intro (show _ <= _ from Nat.le_of_ble_eq_true rfl) ?_) | refine Br.ff ?_ |(refine Br.dec (fun h=>?_) (fun h=>?_)) <;> try (exfalso; omega) | refine And.intro rfl ?_ | fail
        all_goals exact fop_no
    . rw [if_neg hn] at ht
      subst ht
      repeat' (conv=>whnf); first |(refine Or.inl ⟨by rfl,_,c1,?_⟩) |(refine And.intro (show _ <= _ from Nat.le_of_ble_eq_true rfl) ?_) | refine Br.tt ?_ | refine Br.ff ?_ |(refine Br.dec (fun h=>?_) (fun h=>?_)) <;> try (exfalso; omega) | refine And.intro rfl ?_ | fail
      all_goals exact fop_no
def ir_fretworklaw07_Few : IR :=
(.seq (.reg (⟨some 2,.mv (.c (.nils)),none⟩::[])) (.seq (.seq (.reg (⟨some 3,.mv (.t 0),none⟩::⟨some 4,.ln (.t 3),none⟩::⟨some 5,.bin .gtr (.t 4) (.c (.int .i64 60)),none⟩::[])) (.cond (.t 5) (.reg (⟨some 6,.mv (.t 0),none⟩::⟨some 7,.sl 3 (.t 6) none (some (.c (.int .i64 60))) none,none⟩::⟨some 0,.mv (.t 7),none⟩::[])) .skip)) (.seq (.reg (⟨some 8,.mv (.t 0),none⟩::⟨some 2,.mv (.t 8),none⟩::[])) .ret)))
theorem cd_fretworklaw07_Few : Code1 Tryz.prog 39 9 ir_fretworklaw07_Few [.t 2]:=⟨Tryz.call39,_,_,Tryz.func39,rfl,by kernel_rfl,by kernel_rfl,by kernel_rfl,by kernel_rfl⟩
theorem fs_Few7 (l : List Tri) : FS Tryz.prog 39 [EL l] (EL (l.take 60)):=by
  refine fs_of_cvc mixed cd_fretworklaw07_Few (by simp) ?_
  have hll:=eds_len l
  repeat' (conv=>whnf); first |(refine Br.dec (fun h=>?_) (fun h=>?_)) <;> try (exfalso; omega) | refine And.intro rfl ?_ |(refine And.intro (by omega) ?_) | fail
  . show SV.slc 3 (((eds l).take _).drop _) = _
    show SV.slc 3 (((eds l).take 60).drop 0) = _
    rw [List.drop_zero]
    simp [eds,List.map_take]
  . show SV.slc 3 (eds l) = SV.slc 3 (eds (l.take 60))
    rw [List.take_of_length_le (show l.length <= 60 by omega)]
def ir_fretworklaw07_Size : IR :=
(.seq (.reg (⟨some 2,.mv (.c (.int .i64 0)),none⟩::[])) (.seq (.reg (⟨some 3,.mv (.t 0),none⟩::⟨some 4,.cv .i64 (.t 3),none⟩::⟨some 5,.bin .rem (.t 4) (.c (.int .i64 40)),none⟩::⟨some 2,.mv (.t 5),none⟩::[])) .ret))
theorem cd_fretworklaw07_Size : Code1 Tryz.prog 17 6 ir_fretworklaw07_Size [.t 2]:=⟨Tryz.call17,_,_,Tryz.func17,rfl,by kernel_rfl,by kernel_rfl,by kernel_rfl,by kernel_rfl⟩
theorem fs_Size7 (n : Int) (hn : 0 <= n /\ n <= 255) : FS Tryz.prog 17 [.int .u8 n] (.int .i64 (n.tmod 40)):=by
  refine fs_of_cvc mixed cd_fretworklaw07_Size (by simp) ?_
  repeat' (conv=>whnf); first | refine And.intro rfl ?_ |(refine And.intro (by omega) ?_) |(refine ⟨_,Or.inl ⟨⟨by omega,by omega⟩,rfl⟩,?_⟩) | fail
  exact rfl
end
section
open Go.RowKit
attribute [local irreducible] FS FO IT HS
theorem bel_iff {a b : Tri} : bel a b = true ↔ a.1 < b.1 \/ (a.1 = b.1 /\ a.2.1 < b.2.1):=by
  unfold bel
  rw [Bool.or_eq_true,Bool.and_eq_true,decide_eq_true_eq,decide_eq_true_eq,decide_eq_true_eq]
theorem bel_tr {a b c : Tri} (h1 : bel a b = true) (h2 : bel b c = true) : bel a c = true:=by
  rw [bel_iff] at *; omega
def Rise (E : List Tri) : Prop:=E.Pairwise fun a b=>bel a b = true
theorem cpos_take {E : List Tri} {x : Tri} : ∀ y ∈ E.take (cpos E x),bel y x = true:=by
  intro y hy
  obtain ⟨i,hi,rfl⟩:=List.getElem_of_mem hy
  have hi' : i < cpos E x /\ i < E.length:=by simpa [Nat.lt_min] using hi
  have:=cpos_lt hi'.1
  simpa [hi'.2] using this
theorem cStep_rise {r : Int} {E : List Tri} {S : List Int} (h : Rise E) (x : Tri) : Rise (cStep r (E,S) x).1:=by
  unfold cStep
  split
  . exact h
  . rename_i hc
    simp only at hc
    show Rise (E.take (cpos E x) ++ (x.1,x.2.1,0)::E.drop (cpos E x))
    have hx : ∀ y : Tri,bel y (x.1,x.2.1,0) = bel y x:=fun y=>rfl
    have hx' : ∀ y : Tri,bel (x.1,x.2.1,0) y = bel x y:=fun y=>rfl
    have hdrop : ∀ y ∈ E.drop (cpos E x),bel x y = true:=by
      intro y hy
      obtain ⟨i,hi,rfl⟩:=List.getElem_of_mem hy
      have hi' : cpos E x + i < E.length:=by simp at hi; omega
      have hp : cpos E x < E.length:=by omega
      have h0 : bel x (E.getD (cpos E x) (0,0,0)) = true:=by
        cases hb : bel x (E.getD (cpos E x) (0,0,0)) with
        | true=>rfl
        | false=>exact absurd ⟨hp,hb⟩ hc
      rw [List.getElem_drop]
      have e0 : E.getD (cpos E x) (0,0,0) = E[cpos E x]:=by simp [hp]
      rw [e0] at h0
      rcases Nat.eq_zero_or_pos i with rfl | hpos
      . simpa using h0
      . exact bel_tr h0 (List.pairwise_iff_getElem.1 h (cpos E x) (cpos E x + i) hp hi' (by omega))
    refine List.pairwise_append.2 ⟨List.Pairwise.sublist (List.take_sublist _ _) h,List.pairwise_cons.2 ⟨fun y hy=>by rw [hx']; exact hdrop y hy,List.Pairwise.sublist (List.drop_sublist _ _) h⟩,fun a ha b hb=>?_⟩
    have ha':=cpos_take a ha
    rcases List.mem_cons.1 hb with rfl | hb
    . rw [hx]; exact ha'
    . exact bel_tr ha' (hdrop b hb)
theorem cmb_rise {r : Int} : ∀ (l E : List Tri) (S : List Int),Rise E -> Rise (l.foldl (cStep r) (E,S)).1
  | [],_,_,h=>h
  | x::l,E,S,h=>cmb_rise l (cStep r (E,S) x).1 (cStep r (E,S) x).2 (cStep_rise h x)
theorem nrE_rise {E : List Tri} {S : List Int} {k : Nat} (h : Rise E) : Rise (nrE E S k):=by
  unfold Rise
  rw [List.pairwise_iff_getElem]
  intro i j hi hj hij
  rw [nrE_len] at hi hj
  have e : ∀ i (hi : i < E.length) (hi' : i < (nrE E S k).length),bel ((nrE E S k)[i]) = bel (E[i]):=fun i hi hi'=>by
    funext y
    simp [nrE,bel,hi]
  have e2 : ∀ (y : Tri) i (hi : i < E.length) (hi' : i < (nrE E S k).length),bel y ((nrE E S k)[i]) = bel y (E[i]):=fun y i hi hi'=>by
    simp [nrE,bel,hi]
  rw [e i hi,e2 _ j hj]
  exact List.pairwise_iff_getElem.1 h i j hi hj hij
theorem cmbR_rise (r : Int) (l : List Tri) : Rise (cmbR r l).1:=by
  unfold cmbR
  split
  . split
    . exact nrE_rise (cmb_rise l [] [] .nil)
    . exact .nil
  . exact .nil
theorem cntB_zero {L : List Tri} {m : Nat} (h : ∀ x ∈ L,(m : Int) <= x.1) : cntB L m = 0:=by
  unfold cntB
  rw [List.length_eq_zero_iff,List.filter_eq_nil_iff]
  intro x hx
  have:=h x hx
  simp; omega
theorem rise_cnt : ∀ {L : List Tri},Rise L -> ∀ (m k : Nat) (x : Tri),L[k]? = some x -> (x.1 < (m : Int) ↔ k < cntB L m)
  | [],_,m,k,x,h=>by simp at h
  | y :: L, hr, m, k, x, h => by
    obtain ⟨h1,h2⟩:=List.pairwise_cons.1 hr
    have hc : cntB (y::L) m = (if y.1 < (m : Int) then 1 else 0) + cntB L m:=by
      unfold cntB
      rw [List.filter_cons]
      by_cases hy : y.1 < (m : Int)
      . rw [if_pos hy,if_pos (decide_eq_true hy),List.length_cons]; omega
      . rw [if_neg hy,if_neg (by simp; omega)]; omega
    rw [hc]
    have hy' : ∀ z ∈ L,y.1 <= z.1:=fun z hz=>by have:=bel_iff.1 (h1 z hz); omega
    by_cases hy : y.1 < (m : Int)
    . rw [if_pos hy]
      cases k with
      | zero=>simp at h; subst h; exact ⟨fun _=>by omega,fun _=>hy⟩
      | succ k =>
        have:=rise_cnt h2 m k x (by simpa using h)
        rw [this]; omega
    . rw [if_neg hy,cntB_zero fun z hz=>by have:=hy' z hz; omega]
      have hx : y.1 <= x.1:=by
        rcases List.mem_cons.1 (List.mem_of_getElem? h) with rfl | hx
        . exact Int.le_refl _
        . exact hy' x hx
      omega
theorem cntB_mono (L : List Tri) {i j : Nat} (h : i <= j) : cntB L i <= cntB L j:=by
  induction L with
  | nil=>simp [cntB]
  | cons y L ih =>
    have hc : ∀ m,cntB (y::L) m = (if y.1 < ((m : Nat) : Int) then 1 else 0) + cntB L m:=fun m=>by
      unfold cntB
      rw [List.filter_cons]
      by_cases hy : y.1 < (m : Int)
      . rw [if_pos hy,if_pos (decide_eq_true hy),List.length_cons]; omega
      . rw [if_neg hy,if_neg (by simp; omega)]; omega
    rw [hc,hc]
    by_cases h1 : y.1 < (i : Int)
    . rw [if_pos h1,if_pos (by omega)]; omega
    . rw [if_neg h1]; omega
theorem stB_get {rows : Int} {L : List Tri} {i : Nat} (h : (i : Int) <= rows) : (stB rows L).getD i 0 = (cntB L i : Int):=by
  unfold stB
  rw [List.getD_eq_getElem?_getD,tab_get _ (by omega)]; rfl
theorem okM_bM {rows cols : Int} {L : List Tri} (h0 : 0 <= rows /\ rows <= 4096) (h1 : 0 <= cols /\ cols <= 4096) (hr : Rise L) (hi : ∀ x ∈ L,0 <= x.1 /\ x.1 < rows /\ 0 <= x.2.1 /\ x.2.1 < cols) (hl : L.length <= 65536) (V : List Int) (hV : V.length = L.length) : OkM rows cols (stB rows L) (L.map fun x=>x.2.1) V:=by
  refine ⟨h0.1,h0.2,h1.1,h1.2,by rw [stB_len]; omega,by simp [hV],by simpa using hl,?_,?_,fun i hir=>?_⟩
  . rw [stB_get (by omega),cntB_zero fun x hx=>by have:=hi x hx; omega]; rfl
  . rw [stB_get (by omega)]
    have : cntB L rows.toNat = L.length:=by
      unfold cntB
      rw [List.filter_eq_self.2 fun x hx=>by have:=hi x hx; simp; omega]
    rw [this]; simp
  . have e1:=stB_get (rows:=rows) (L:=L) (i:=i) (by omega)
    have e2:=stB_get (rows:=rows) (L:=L) (i:=i + 1) (by omega)
    rw [rowB_iff,e1,e2]
    have hm:=cntB_mono L (Nat.le_succ i)
    have hle:=cntB_le L (i + 1)
    simp only [Nat.succ_eq_add_one] at hm
    refine ⟨by omega,by omega,by simp; omega,fun j hj=>?_⟩
    have hjn : cntB L i + j < cntB L (i + 1):=by omega
    have hk : cntB L i + j < L.length:=by omega
    rw [Int.toNat_natCast,colB_iff]
    have hg : ∀ k,k < L.length -> (L.map fun x=>x.2.1).getD k 0 = (L.getD k (0,0,0)).2.1:=fun k hk=>by simp [hk]
    have row : ∀ k,cntB L i <= k -> k < cntB L (i + 1) -> (L.getD k (0,0,0)).1 = (i : Int):=fun k h1 h2=>by
      have hkl : k < L.length:=by omega
      have a1:=(rise_cnt hr i k _ (eds_some hkl))
      have a2:=(rise_cnt hr (i + 1) k _ (eds_some hkl))
      omega
    rw [hg _ hk]
    have hx:=hi _ (List.mem_of_getElem? (eds_some hk))
    refine ⟨hx.2.2.1,hx.2.2.2,?_⟩
    by_cases hj0 : j = 0
    . exact .inl hj0
    . right
      have hk1 : cntB L i + j - 1 < L.length:=by omega
      rw [hg _ hk1]
      have b1:=row (cntB L i + j) (by omega) hjn
      have b2:=row (cntB L i + j - 1) (by omega) (by omega)
      have g1 : L.getD (cntB L i + j) (0,0,0) = L[cntB L i + j]:=by simp [hk]
      have g2 : L.getD (cntB L i + j - 1) (0,0,0) = L[cntB L i + j - 1]:=by simp [hk1]
      have:=bel_iff.1 (List.pairwise_iff_getElem.1 hr (cntB L i + j - 1) (cntB L i + j) hk1 hk (by omega))
      rw [<- g1,<- g2] at this
      omega
theorem cmb_i : ∀ (l E : List Tri) (S : List Int),(∀ s ∈ S,I64 s) -> (∀ x ∈ l,I64 x.2.2) -> ∀ s ∈ (l.foldl (cStep 1) (E,S)).2,I64 s
  | [],_,_,h,_=>h
  | x::l,E,S,h,hl=>cmb_i l (cStep 1 (E,S) x).1 (cStep 1 (E,S) x).2 (cStep_i h (hl x List.mem_cons_self)) fun y hy=>hl y (List.mem_cons_of_mem _ hy)
theorem cmbR_1 {l : List Tri} (h : ∀ x ∈ l,I64 x.2.2) : (cmbR 1 l).2 = 0:=by
  unfold cmbR
  rw [if_pos (by decide),if_pos]
  rw [List.all_eq_true]
  exact fun s hs=>fits_i (cmb_i l [] [] (fun s h=>by cases h) h s hs)
theorem nrE_I {E : List Tri} {S : List Int} : ∀ x ∈ nrE E S E.length,I64 x.2.2:=by
  intro x hx
  obtain ⟨i,hi,rfl⟩:=List.mem_map.1 hx
  have hi:=List.mem_range.1 hi
  show I64 (if i < E.length then nar (S.getD i 0) else _)
  rw [if_pos hi]
  exact nar_i _
theorem cmbR_I (r : Int) (l : List Tri) : ∀ x ∈ (cmbR r l).1,I64 x.2.2:=by
  unfold cmbR
  split
  . split
    . exact nrE_I
    . intro x hx; cases hx
  . intro x hx; cases hx
theorem ofM_1 {rows cols : Int} {l : List Tri} (h0 : 0 <= rows /\ rows <= 4096) (h1 : 0 <= cols /\ cols <= 4096) (hl : l.length <= 65536) (hi : l.all (inM rows cols) = true) (hb : ∀ x ∈ l,I64 x.2.2) :
    ofM 1 rows cols l = (bM rows cols (cmbR 1 l).1,0) /\ (∀ V : List Int,V.length = (cmbR 1 l).1.length -> OkM rows cols (stB rows (cmbR 1 l).1) ((cmbR 1 l).1.map fun x=>x.2.1) V) /\ Zb ((cmbR 1 l).1.map fun x=>x.2.2):=by
  refine ⟨?_,fun V hV=>?_,?_⟩
  . unfold ofM
    rw [if_pos (by decide),if_pos ⟨h0.1,h0.2,h1.1,h1.2⟩,if_pos hl,if_pos hi,if_pos (cmbR_1 hb)]
  . refine okM_bM h0 h1 (cmbR_rise 1 l) (fun x hx=>?_) (by have:=cmbR_len 1 l; omega) V hV
    have:=cmbR_mem (r:=1) (l:=l) (Q:=fun a b=>0 <= a /\ a < rows /\ 0 <= b /\ b < cols) (fun x hx=>of_decide_eq_true (List.all_eq_true.1 hi x hx)) x hx
    exact this
  . intro x hx
    obtain ⟨y,hy,rfl⟩:=List.mem_map.1 hx
    exact cmbR_I 1 l y hy
end
section
open Go.RowKit
attribute [local irreducible] FS FO IT HS
theorem bAnd_low (n : Int) (k : Nat) (hk : k <= 62) : bAnd .i64 n (2 ^ k - 1 : Nat) = n % (2 ^ k : Nat):=by
  unfold bAnd
  have hp : (2 : Nat) ^ k <= 2 ^ 62:=Nat.pow_le_pow_right (by omega) hk
  have hp0 : 0 < (2 : Nat) ^ k:=Nat.pos_of_ne_zero (by simp)
  have hd : (2 : Nat) ^ k ∣ 2 ^ 64:=Nat.pow_dvd_pow 2 (by omega)
  have h : (BitVec.ofInt IntKind.i64.bits n &&& BitVec.ofInt IntKind.i64.bits ((2 ^ k - 1 : Nat) : Int)).toNat = (n % (2 ^ k : Nat)).toNat:=by
    rw [BitVec.toNat_and]
    show (BitVec.ofInt 64 n).toNat &&& (BitVec.ofInt 64 ((2 ^ k - 1 : Nat) : Int)).toNat = _
    rw [show (BitVec.ofInt 64 ((2 ^ k - 1 : Nat) : Int)).toNat = 2 ^ k - 1 from ofInt_toNat (by omega),and_mask,BitVec.toNat_ofInt]
    have e1 : (n % ((2 ^ 64 : Nat) : Int)).toNat % 2 ^ k = (n % ((2 ^ k : Nat) : Int)).toNat:=by
      apply Int.ofNat.inj
      show (((n % ((2 ^ 64 : Nat) : Int)).toNat % 2 ^ k : Nat) : Int) = ((n % ((2 ^ k : Nat) : Int)).toNat : Int)
      rw [Int.natCast_emod,Int.toNat_of_nonneg (Int.emod_nonneg _ (by omega)),Int.toNat_of_nonneg (Int.emod_nonneg _ (by omega))]
      exact Int.emod_emod_of_dvd _ (by exact_mod_cast hd)
    exact e1
  rw [h]
  have h1 : 0 <= n % ((2 ^ k : Nat) : Int):=Int.emod_nonneg _ (by omega)
  have h2 : n % ((2 ^ k : Nat) : Int) < ((2 ^ k : Nat) : Int):=Int.emod_lt_of_pos _ (by omega)
  rw [wrap_i64_id (by omega) (by omega)]
  omega
def valR (r n : Int) : Int:=if r = 5 then n else if r = 2 then n % 2 else if (n % 4611686018427387904).tmod 5 = 0 then 4611686018427387904 else n % 4611686018427387904
def facR (r n : Int) : Int:=if r = 5 then n.tmod 2147483648 else valR r n
theorem valR_i {r n : Int} (h : I64 n) : I64 (valR r n):=by
  unfold I64 at *
  unfold valR
  split
  . exact h
  . split
    . omega
    . split <;> omega
theorem facR_i {r n : Int} (h : I64 n) : I64 (facR r n):=by
  unfold facR
  split
  . unfold I64 at *
    have h1:=Int.tmod_add_mul_tdiv n 2147483648
    have : -2147483648 < n.tmod 2147483648 /\ n.tmod 2147483648 < 2147483648:=⟨by have:=Int.lt_tmod_of_pos n (show (0 : Int) < 2147483648 by omega); omega,Int.tmod_lt_of_pos n (by omega)⟩
    omega
  . exact valR_i h
def ir_fretworklaw02_Value : IR :=
(.seq (.reg (⟨some 4,.mv (.c (.int .i64 0)),none⟩::[])) (.seq (.reg (⟨some 5,.mv (.t 0),none⟩::[])) (.block 0 (.seq (.reg (⟨some 13,.bin .eql (.t 5) (.c (.int .i64 5)),none⟩::⟨some 12,.mv (.t 13),none⟩::[])) (.cond (.t 12) (.seq (.reg (⟨some 14,.mv (.t 1),none⟩::⟨some 4,.mv (.t 14),none⟩::[])) .ret) (.seq (.reg (⟨some 16,.bin .eql (.t 5) (.c (.int .i64 2)),none⟩::⟨some 15,.mv (.t 16),none⟩::[])) (.cond (.t 15) (.seq (.reg (⟨some 17,.mv (.t 1),none⟩::⟨some 18,.bin .and (.t 17) (.c (.int .i64 1)),none⟩::⟨some 4,.mv (.t 18),none⟩::[])) .ret) (.seq (.reg (⟨some 6,.mv (.t 1),none⟩::⟨some 7,.bin .and (.t 6) (.c (.int .i64 4611686018427387903)),none⟩::⟨some 1,.mv (.t 7),none⟩::[])) (.seq (.seq (.reg (⟨some 8,.mv (.t 1),none⟩::⟨some 9,.bin .rem (.t 8) (.c (.int .i64 5)),none⟩::⟨some 10,.bin .eql (.t 9) (.c (.int .i64 0)),none⟩::[])) (.cond (.t 10) (.seq (.reg (⟨some 4,.mv (.c (.int .i64 4611686018427387904)),none⟩::[])) .ret) .skip)) (.seq (.reg (⟨some 11,.mv (.t 1),none⟩::⟨some 4,.mv (.t 11),none⟩::[])) .ret))))))))))
theorem cd_fretworklaw02_Value : Code1 Tryz.prog 18 19 ir_fretworklaw02_Value [.t 4]:=⟨Tryz.call18,_,_,Tryz.func18,rfl,by kernel_rfl,by kernel_rfl,by kernel_rfl,by kernel_rfl⟩
theorem fs_Value (r n : Int) : FS Tryz.prog 18 [.int .i64 r, .int .i64 n] (.int .i64 (valR r n)) := by
  refine fs_of_cvc mixed cd_fretworklaw02_Value (by simp) ?_
  have e1 : bAnd .i64 n 1 = n % 2:=bAnd_low n 1 (by omega)
  have e2 : bAnd .i64 n 4611686018427387903 = n % 4611686018427387904:=bAnd_low n 62 (by omega)
  by_cases h5 : r = 5
  . subst h5
    repeat' (conv=>whnf); first | refine Br.tt ?_ | refine And.intro rfl ?_ | fail
    exact rfl
  . by_cases h2 : r = 2
    . subst h2
      repeat' (conv=>whnf); first | refine Br.tt ?_ | refine Br.ff ?_ | refine And.intro rfl ?_ | fail
      show SV.int .i64 (bAnd .i64 n 1) = _
      rw [e1]; rfl
    . have hv : valR r n = if (n % 4611686018427387904).tmod 5 = 0 then 4611686018427387904 else n % 4611686018427387904:=by
        unfold valR; rw [if_neg h5,if_neg h2]
      rw [hv,<- e2]
      by_cases h0 : (bAnd .i64 n 4611686018427387903).tmod 5 = 0
      . rw [if_pos h0]
        repeat' (conv=>whnf); first |(refine Br.dec (fun h=>?_) (fun h=>?_)) <;> try (exfalso; omega) | refine And.intro rfl ?_ |(refine And.intro (by omega) ?_) | fail
        exact rfl
      . rw [if_neg h0]
        repeat' (conv=>whnf); first |(refine Br.dec (fun h=>?_) (fun h=>?_)) <;> try (exfalso; omega) | refine And.intro rfl ?_ |(refine And.intro (by omega) ?_) | fail
        exact rfl
def ir_fretworklaw02_Factor : IR :=
(.seq (.reg (⟨some 4,.mv (.c (.int .i64 0)),none⟩::[])) (.seq (.seq (.reg (⟨some 5,.mv (.t 0),none⟩::⟨some 6,.bin .eql (.t 5) (.c (.int .i64 5)),none⟩::[])) (.cond (.t 6) (.seq (.reg (⟨some 7,.mv (.t 1),none⟩::⟨some 8,.bin .rem (.t 7) (.c (.int .i64 2147483648)),none⟩::⟨some 4,.mv (.t 8),none⟩::[])) .ret) .skip)) (.seq (.reg (⟨some 9,.mv (.t 0),none⟩::⟨some 10,.mv (.t 1),none⟩::⟨some 11,.call (.c (.fn 18 [])) [(.t 9),(.t 10)],none⟩::⟨some 4,.mv (.t 11),none⟩::[])) .ret)))
theorem cd_fretworklaw02_Factor : Code1 Tryz.prog 15 12 ir_fretworklaw02_Factor [.t 4]:=⟨Tryz.call15,_,_,Tryz.func15,rfl,by kernel_rfl,by kernel_rfl,by kernel_rfl,by kernel_rfl⟩
theorem fs_Factor (r n : Int) : FS Tryz.prog 15 [.int .i64 r,.int .i64 n] (.int .i64 (facR r n)):=by
  refine fs_of_cvc mixed cd_fretworklaw02_Factor (by simp) ?_
  have c:=fs_Value r n
  by_cases h5 : r = 5
  . subst h5
    repeat' (conv=>whnf); first | refine Br.tt ?_ | refine And.intro rfl ?_ |(refine And.intro (by omega) ?_) | fail
    exact rfl
  . have e : facR r n = valR r n:=if_neg h5
    rw [e]
    repeat' (conv=>whnf); first |(refine Or.inl ⟨by rfl,_,c,?_⟩) |(refine Br.dec (fun h=>?_) (fun h=>?_)) <;> try (exfalso; omega) | refine And.intro rfl ?_ | fail
    exact rfl
def rgt (r : Int) : Int:=if r < 1 \/ 5 < r then 1 else r
def ir_fretworklaw13_Right : IR :=
(.seq (.reg (⟨some 2,.mv (.c (.int .i64 0)),none⟩::[])) (.seq (.seq (.reg (⟨some 3,.mv (.t 0),none⟩::⟨some 4,.bin .lss (.t 3) (.c (.int .i64 1)),none⟩::⟨some 5,.mv (.t 4),none⟩::⟨some 6,.mv (.t 0),some (5,false)⟩::⟨some 7,.bin .gtr (.t 6) (.c (.int .i64 5)),some (5,false)⟩::⟨some 8,.pick (.t 5) (.c (.bool true)) (.t 7),none⟩::[])) (.cond (.t 8) (.seq (.reg (⟨some 2,.mv (.c (.int .i64 1)),none⟩::[])) .ret) .skip)) (.seq (.reg (⟨some 9,.mv (.t 0),none⟩::⟨some 2,.mv (.t 9),none⟩::[])) .ret)))
theorem cd_fretworklaw13_Right : Code1 Tryz.prog 4 10 ir_fretworklaw13_Right [.t 2]:=⟨Tryz.call4,_,_,Tryz.func4,rfl,by kernel_rfl,by kernel_rfl,by kernel_rfl,by kernel_rfl⟩
theorem fs_Right13 (r : Int) : FS Tryz.prog 4 [.int .i64 r] (.int .i64 (rgt r)):=by
  refine fs_of_cvc mixed cd_fretworklaw13_Right (by simp) ?_
  repeat' (conv=>whnf); first | refine Br.tt ?_ | refine Br.ff ?_ |(refine Br.dec (fun h=>?_) (fun h=>?_)) <;> try (exfalso; omega) | refine And.intro rfl ?_ | fail
  all_goals
    show SV.int .i64 _ = SV.int .i64 _
    congr 1
    unfold rgt
    first | rw [if_pos (by omega)] | rw [if_neg (by omega)]
/-! ### A matrix of some triples -/
def tri7 (rows cols : Int) (x : Tri) : Option Tri:=if x.1 < 0 \/ x.2.1 < 0 \/ rows = 0 \/ cols = 0 then none else some (x.1.tmod rows,x.2.1.tmod cols,x.2.2)
def tris (rows cols : Int) (l : List Tri) : List Tri:=l.filterMap (tri7 rows cols)
def smM (rows cols : Int) (l : List Tri) : Mat5:=bM rows cols (cmbR 1 (tris rows cols (l.take 60))).1
theorem tris_more {rows cols : Int} {l : List Tri} {k : Nat} {x : Tri} (h : l[k]? = some x) : tris rows cols (l.take (k + 1)) = tris rows cols (l.take k) ++ (tri7 rows cols x).toList:=by
  unfold tris
  rw [List.take_add_one,h,List.filterMap_append]
  cases hr : tri7 rows cols x <;> simp [hr]
theorem tris_in {rows cols : Int} (h0 : 0 <= rows) (h1 : 0 <= cols) {l : List Tri} (hb : ∀ x ∈ l,I64 x.2.2) : (tris rows cols l).all (inM rows cols) = true /\ ∀ x ∈ tris rows cols l,I64 x.2.2:=by
  have key : ∀ x ∈ tris rows cols l,inM rows cols x = true /\ I64 x.2.2:=by
    intro x hx
    obtain ⟨y,hy,h⟩:=List.mem_filterMap.1 hx
    unfold tri7 at h
    split at h
    . cases h
    . rename_i hc
      cases h
      have a1:=tmod_bd (a:=y.1) (k:=rows) (by omega) (by omega)
      have a2:=tmod_bd (a:=y.2.1) (k:=cols) (by omega) (by omega)
      exact ⟨decide_eq_true ⟨a1.1,a1.2,a2.1,a2.2⟩,hb y hy⟩
  exact ⟨List.all_eq_true.2 fun x hx=>(key x hx).1,fun x hx=>(key x hx).2⟩
theorem tris_len (rows cols : Int) (l : List Tri) : (tris rows cols l).length <= l.length:=List.length_filterMap_le _ _
theorem take60 {α : Type} (l : List α) : (l.take 60).length <= 60:=by simp; omega
theorem mem60 {α : Type} {l : List α} {Q : α -> Prop} (h : ∀ x ∈ l,Q x) : ∀ x ∈ l.take 60,Q x:=fun x hx=>h x (List.mem_of_mem_take hx)
theorem smM_ok {rows cols : Int} (h0 : 0 <= rows /\ rows <= 4096) (h1 : 0 <= cols /\ cols <= 4096) {l : List Tri} (hb : ∀ x ∈ l,I64 x.2.2) :
    ofM 1 rows cols (tris rows cols (l.take 60)) = (smM rows cols l,0) /\ (∀ V : List Int,V.length = (smM rows cols l).2.2.2.2.length -> OkM rows cols (smM rows cols l).2.2.1 (smM rows cols l).2.2.2.1 V) /\ Zb (smM rows cols l).2.2.2.2:=by
  have hi:=tris_in h0.1 h1.1 (mem60 hb)
  have hl:=tris_len rows cols (l.take 60)
  have h60:=take60 l
  have:=ofM_1 h0 h1 (by omega) hi.1 hi.2
  exact ⟨this.1,fun V hV=>this.2.1 V (by rw [hV]; simp [smM,bM]),this.2.2⟩
theorem frz_own4 {H : List Blk} {F : List SV -> Prop} {k wd n : Nat} {xs : List (List SV)} {x y z : SV} {rest : List SV} (hx : x.pure = true) (hy : y.pure = true) (hz : z.pure = true) (hk : H[k]? = some (.arr wd xs)) (hn : n = xs.length) (hp : SV.pure.pureL rest = true) (h : F (x::y::z::.slc wd xs::rest)) : frzs (frzK 4 H) (x::y::z::.osl k wd 0 n::rest) F :=
  frz_pure 4 x (fun u=>frzs (frzK 4 H) (y::z::.osl k wd 0 n::rest) fun ys=>F (u::ys)) hx (frz_own3 (F:=fun ys=>F (x::ys)) hy hz hk hn hp h)
def ir_fretworklaw07_Some : IR :=
(.seq (.reg (⟨some 2,.bx (.t 0),none⟩::⟨some 4,.al [.int .i64 0,.int .i64 0,.nils,.nils,.nils],none⟩::[])) (.seq (.draw (⟨some 12,.iaA 2 1 (.t 2) (.c (.int .i64 0)),none⟩::⟨some 13,.ld 1 false (.t 12),none⟩::⟨some 14,.call (.c (.fn 17 [])) [(.t 13)],none⟩::⟨some 15,.iaA 2 1 (.t 2) (.c (.int .i64 1)),none⟩::⟨some 16,.ld 1 false (.t 15),none⟩::[]) (⟨some 17,.call (.c (.fn 17 [])) [(.t 16)],none⟩::⟨some 5,.mv (.t 14),none⟩::⟨some 6,.mv (.t 17),none⟩::[])) (.seq (.reg (⟨some 7,.mv (.c (.nils)),none⟩::[])) (.seq (.reg (⟨some 18,.mv (.t 1),none⟩::⟨some 19,.call (.c (.fn 39 [])) [(.t 18)],none⟩::⟨some 1,.mv (.t 19),none⟩::[])) (.seq (.seq (.reg (⟨some 8,.mv (.c (.int .i64 0)),none⟩::[])) (.block 0 (.loop (.seq (.seq (.reg (⟨some 20,.mv (.t 8),none⟩::⟨some 21,.mv (.t 1),none⟩::⟨some 22,.ln (.t 21),none⟩::⟨some 23,.bin .lss (.t 20) (.t 22),none⟩::[])) (.cond (.t 23) .skip (.exit 0))) (.seq (.block 1 (.seq (.reg (⟨some 26,.mv (.t 1),none⟩::⟨some 27,.mv (.t 8),none⟩::⟨some 28,.ia 3 (.t 26) (.t 27),none⟩::⟨some 29,.ld 3 true (.t 28),none⟩::⟨some 9,.al [.int .i64 0,.int .i64 0,.int .i64 0],none⟩::⟨none,.st 3 (.t 9) (.t 29),none⟩::[])) (.seq (.seq (.reg (⟨some 30,.fa 0 (.t 9),none⟩::⟨some 31,.ld 1 false (.t 30),none⟩::⟨some 32,.bin .lss (.t 31) (.c (.int .i64 0)),none⟩::⟨some 33,.mv (.t 32),none⟩::⟨some 34,.fa 1 (.t 9),some (33,false)⟩::⟨some 35,.ld 1 false (.t 34),some (33,false)⟩::⟨some 36,.bin .lss (.t 35) (.c (.int .i64 0)),some (33,false)⟩::⟨some 37,.pick (.t 33) (.c (.bool true)) (.t 36),none⟩::⟨some 38,.mv (.t 37),none⟩::⟨some 39,.mv (.t 5),some (38,false)⟩::⟨some 40,.bin .eql (.t 39) (.c (.int .i64 0)),some (38,false)⟩::⟨some 41,.pick (.t 38) (.c (.bool true)) (.t 40),none⟩::⟨some 42,.mv (.t 41),none⟩::⟨some 43,.mv (.t 6),some (42,false)⟩::⟨some 44,.bin .eql (.t 43) (.c (.int .i64 0)),some (42,false)⟩::⟨some 45,.pick (.t 42) (.c (.bool true)) (.t 44),none⟩::[])) (.cond (.t 45) (.exit 1) .skip)) (.seq (.reg (⟨some 46,.fa 0 (.t 9),none⟩::⟨some 47,.ld 1 false (.t 46),none⟩::⟨some 48,.mv (.t 5),none⟩::⟨some 49,.bin .rem (.t 47) (.t 48),none⟩::⟨some 50,.fa 0 (.t 9),none⟩::⟨none,.st 1 (.t 50) (.t 49),none⟩::[])) (.seq (.reg (⟨some 51,.fa 1 (.t 9),none⟩::⟨some 52,.ld 1 false (.t 51),none⟩::⟨some 53,.mv (.t 6),none⟩::⟨some 54,.bin .rem (.t 52) (.t 53),none⟩::⟨some 55,.fa 1 (.t 9),none⟩::⟨none,.st 1 (.t 55) (.t 54),none⟩::[])) (.reg (⟨some 56,.mv (.t 7),none⟩::⟨some 57,.ld 3 true (.t 9),none⟩::⟨some 58,.bsl 1 3 [.int .i64 0,.int .i64 0,.int .i64 0] [(0,(.t 57))],none⟩::⟨some 59,.ap 3 24 (.t 56) (.t 58),none⟩::⟨some 7,.mv (.t 59),none⟩::[]))))))) (.reg (⟨some 24,.mv (.t 8),none⟩::⟨some 25,.bin .add (.t 24) (.c (.int .i64 1)),none⟩::⟨some 8,.mv (.t 25),none⟩::[]))))))) (.seq (.reg (⟨some 61,.mv (.t 5),none⟩::⟨some 62,.mv (.t 6),none⟩::⟨some 63,.mv (.t 7),none⟩::⟨some 64,.call (.c (.fn 40 [])) [(.c (.int .i64 1)),(.t 61),(.t 62),(.t 63)],none⟩::⟨some 60,.mv (.t 64),none⟩::⟨some 65,.ex 0 (.t 60),none⟩::⟨some 66,.ex 1 (.t 60),none⟩::⟨some 10,.al [.int .i64 0,.int .i64 0,.nils,.nils,.nils],none⟩::⟨none,.st 5 (.t 10) (.t 65),none⟩::⟨some 11,.mv (.t 66),none⟩::[])) (.seq (.seq (.reg (⟨some 67,.mv (.t 11),none⟩::⟨some 68,.bin .neq (.t 67) (.c (.int .i64 0)),none⟩::[])) (.cond (.t 68) (.seq (.reg (⟨some 69,.mv (.t 5),none⟩::⟨some 70,.mv (.t 6),none⟩::⟨some 71,.call (.c (.fn 41 [])) [(.t 69),(.t 70)],none⟩::⟨none,.st 5 (.t 4) (.t 71),none⟩::[])) .ret) .skip)) (.seq (.reg (⟨some 72,.ld 5 true (.t 10),none⟩::⟨none,.st 5 (.t 4) (.t 72),none⟩::[])) .ret))))))))
theorem cd_fretworklaw07_Some : Code1 Tryz.prog 14 73 ir_fretworklaw07_Some [.c 5 true 4]:=⟨Tryz.call14,_,_,Tryz.func14,rfl,by kernel_rfl,by kernel_rfl,by kernel_rfl,by kernel_rfl⟩
set_option maxHeartbeats 8000000 in
theorem fs_Some7 (a b : Int) (l : List Tri) (ha : 0 <= a /\ a <= 255) (hb : 0 <= b /\ b <= 255) (hl : ∀ x ∈ l,I64 x.2.2) : FS Tryz.prog 14 [.agg [.int .u8 a,.int .u8 b],EL l] (MV (smM (a.tmod 40) (b.tmod 40) l)):=by
  refine fs_of_cvc mixed cd_fretworklaw07_Some (by simp) ?_
  have c1:=fs_Size7 a ha
  have c2:=fs_Size7 b hb
  have c3:=fs_Few7 l
  have hr:=tmod_bd (a:=a) (k:=40) ha.1 (by omega)
  have hc:=tmod_bd (a:=b) (k:=40) hb.1 (by omega)
  generalize a.tmod 40 = rows at *
  generalize b.tmod 40 = cols at *
  have hsm:=smM_ok (rows:=rows) (cols:=cols) ⟨hr.1,by omega⟩ ⟨hc.1,by omega⟩ hl
  have h60:=take60 l
  have hl60:=mem60 hl
  have hti:=(tris_in hr.1 hc.1 hl60).2
  obtain ⟨m,hm⟩ : ∃ m,smM rows cols l = m:=⟨_,rfl⟩
  rw [hm] at hsm
  rw [hm]
  generalize l.take 60 = w at *
  have hwl:=eds_len w
  have htl:=tris_len rows cols w
  repeat' (conv=>whnf); first |(refine Or.inl ⟨by rfl,_,c1,?_⟩) |(refine Or.inl ⟨by rfl,_,c2,?_⟩) |(refine Or.inl ⟨by rfl,_,c3,?_⟩) |(refine And.intro (by omega) ?_) | fail
  refine ⟨Nat,fun k=>k <= w.length,fun k=>[(1,EL w),(4,.ptr 1 0 0 0),(5,.int .i64 rows),(6,.int .i64 cols),(7,.osl 2 3 0 (tris rows cols (w.take k)).length),(8,.int .i64 (k : Int))],fun k=>[.dead,.vars [.int .i64 0,.int .i64 0,.nils,.nils,.nils],.arr 3 (eds (tris rows cols (w.take k)))],fun _=>none,fun k=>w.length - k,
    ⟨0,Nat.zero_le _,⟨rfl,rfl,rfl,rfl,⟨Nat.le_of_ble_eq_true rfl,rfl,rfl⟩,rfl,trivial⟩,⟨trivial,⟨rfl,rfl,rfl,rfl,rfl,trivial⟩,rfl,trivial⟩,rfl⟩,fun k hk=>?_⟩
  have hk : k <= w.length:=hk
  have hktl:=tris_len rows cols (w.take k)
  have hkte:=eds_len (tris rows cols (w.take k))
  have hkt : (w.take k).length = k:=by simp; omega
  by_cases hkl : k < w.length
  . obtain ⟨x,hx⟩ : ∃ x,w.getD k (0,0,0) = x:=⟨_,rfl⟩
    have hxk : w[k]? = some x:=by rw [<- hx]; exact eds_some hkl
    have hst:=tris_more (rows:=rows) (cols:=cols) hxk
    by_cases hc7 : x.1 < 0 \/ x.2.1 < 0 \/ rows = 0 \/ cols = 0
    . have e7 : tri7 rows cols x = none:=if_pos hc7
      rw [e7] at hst
      repeat' (conv=>whnf); first |(refine eds_is' (i:=k) (by omega) hx ?_) |(refine And.intro (show _ <= _ from Nat.le_of_ble_eq_true rfl) ?_) | refine Br.tt ?_ | refine Br.ff ?_ |(refine Br.dec (fun h=>?_) (fun h=>?_)) <;> try (exfalso; omega) | refine And.intro rfl ?_ |(refine And.intro (by omega) ?_) |(refine ⟨_,Or.inl ⟨⟨by omega,by omega⟩,rfl⟩,?_⟩) | fail
      all_goals
        refine ⟨k + 1,(show k + 1 <= w.length by omega),(show w.length - (k + 1) < w.length - k by omega),⟨rfl,rfl,rfl,rfl,?_,rfl,trivial⟩,⟨trivial,⟨rfl,rfl,rfl,rfl,rfl,trivial⟩,?_,⟨Nat.le_of_ble_eq_true rfl,rfl,rfl⟩⟩,rfl⟩
        . rw [hst]; exact congrArg (SV.osl 2 3 0) (by simp)
        . rw [hst]; exact congrArg (fun l=>Blk.arr 3 (eds l)) (by simp)
    . have e7 : tri7 rows cols x = some (x.1.tmod rows,x.2.1.tmod cols,x.2.2):=if_neg hc7
      rw [e7] at hst
      repeat' (conv=>whnf); first |(refine eds_is' (i:=k) (by omega) hx ?_) |(refine And.intro (Or.inl (Nat.zero_le _)) ?_) |(refine And.intro (show _ <= _ from Nat.le_of_ble_eq_true rfl) ?_) |((refine And.intro (by intro y hy; simp at hy; subst hy; rfl) ?_)) | refine Br.ff ?_ |(refine Br.dec (fun h=>?_) (fun h=>?_)) <;> try (exfalso; omega) | refine And.intro rfl ?_ |(refine And.intro (by omega) ?_) |(refine ⟨_,Or.inl ⟨⟨by omega,by omega⟩,rfl⟩,?_⟩) |(refine And.intro (by simp only [lens_all]; first | done | omega) ?_) | fail
      refine ⟨k + 1,(show k + 1 <= w.length by omega),(show w.length - (k + 1) < w.length - k by omega),⟨rfl,rfl,rfl,rfl,?_,rfl,trivial⟩,⟨trivial,⟨rfl,rfl,rfl,rfl,rfl,trivial⟩,?_,⟨Nat.le_of_ble_eq_true rfl,rfl,rfl⟩⟩,rfl⟩
      . rw [hst]; exact congrArg (SV.osl 2 3 0) (by simp)
      . rw [hst,eds_append]; rfl
  . obtain rfl : k = w.length:=by omega
    rw [List.take_length] at hkte
    have c4:=fo_r7Of 1 rows cols (tris rows cols w) hti
    rw [hsm.1] at c4
    have c5 : FO Tryz.prog 40 [.int .i64 1,.int .i64 rows,.int .i64 cols,.slc 3 (eds (tris rows cols (w.take w.length)))] (.tup [.agg [.int .i64 m.1,.int .i64 m.2.1,.osl 0 1 0 m.2.2.1.length,.osl 1 1 0 m.2.2.2.1.length,.osl 2 1 0 m.2.2.2.2.length],.int .i64 0]) (MB m):=by rw [List.take_length]; exact c4
    have hkl2 : (eds (tris rows cols (w.take w.length))).length = (tris rows cols (w.take w.length)).length:=eds_len _
    have z1:=zs_len m.2.2.1
    have z2:=zs_len m.2.2.2.1
    have z3:=zs_len m.2.2.2.2
    repeat' (conv=>whnf); first |(refine Or.inr (Or.inr (Or.inr (Or.inr (Or.inl (frz_own4 rfl rfl rfl (by rfl) hkl2.symm rfl ⟨_,_,c5,rfl,mb_loose _,?_⟩)))))) |(refine And.intro (show _ <= _ from Nat.le_of_ble_eq_true rfl) ?_) | refine Br.ff ?_ |(refine Br.dec (fun h=>?_) (fun h=>?_)) <;> try (exfalso; omega) | refine And.intro rfl ?_ |(refine And.intro (by omega) ?_) | fail
    conv=>whnf
    show SV.agg [.int .i64 m.1,.int .i64 m.2.1,.slc 1 (List.take m.2.2.1.length (List.drop 0 (zs m.2.2.1))),.slc 1 (List.take m.2.2.2.1.length (List.drop 0 (zs m.2.2.2.1))),.slc 1 (List.take m.2.2.2.2.length (List.drop 0 (zs m.2.2.2.2)))] = MV m
    rw [frz_zl rfl,frz_zl rfl,frz_zl rfl]; rfl
/-! ### A task -/
theorem map_takeA {α β : Type} (g : α -> β) {l : List α} {k : Nat} {x : α} (h : l[k]? = some x) : (l.take (k + 1)).map g = (l.take k).map g ++ [g x]:=by
  rw [List.take_add_one,h,List.map_append]; rfl
def TK (r a b : Int) (l : List Tri) (x y : List (Int × Int)) (f : List Nat) (o : Bool) : SV:=.agg [.int .i64 r,.int .u8 a,.int .u8 b,EL l,IL x,IL y,U f,.bool o]
def tkM (r a b : Int) (l : List Tri) : Mat5:=((smM (a.tmod 40) (b.tmod 40) l).1,(smM (a.tmod 40) (b.tmod 40) l).2.1,(smM (a.tmod 40) (b.tmod 40) l).2.2.1,(smM (a.tmod 40) (b.tmod 40) l).2.2.2.1,(smM (a.tmod 40) (b.tmod 40) l).2.2.2.2.map (facR (rgt r)))
def MW (m : Mat5) : SV:=.agg [.int .i64 m.1,.int .i64 m.2.1,Z m.2.2.1,Z m.2.2.2.1,.osl 0 1 0 m.2.2.2.2.length]
def ir_fretworklaw13_Task_Matrix : IR :=
(.seq (.reg (⟨some 1,.bx (.t 0),none⟩::⟨some 2,.al [.int .i64 0,.int .i64 0,.nils,.nils,.nils],none⟩::[])) (.seq (.reg (⟨some 7,.fa 1 (.t 1),none⟩::⟨some 8,.ld 2 true (.t 7),none⟩::⟨some 9,.fa 3 (.t 1),none⟩::⟨some 10,.ld 1 false (.t 9),none⟩::⟨some 11,.call (.c (.fn 14 [])) [(.t 8),(.t 10)],none⟩::⟨some 3,.al [.int .i64 0,.int .i64 0,.nils,.nils,.nils],none⟩::⟨none,.st 5 (.t 3) (.t 11),none⟩::[])) (.seq (.reg (⟨some 12,.fa 0 (.t 1),none⟩::⟨some 13,.ld 1 false (.t 12),none⟩::⟨some 14,.call (.c (.fn 4 [])) [(.t 13)],none⟩::⟨some 4,.mv (.t 14),none⟩::[])) (.seq (.reg (⟨some 5,.mv (.c (.nils)),none⟩::[])) (.seq (.seq (.reg (⟨some 6,.mv (.c (.int .i64 0)),none⟩::[])) (.block 0 (.loop (.seq (.seq (.reg (⟨some 15,.mv (.t 6),none⟩::⟨some 16,.fa 4 (.t 3),none⟩::⟨some 17,.ld 1 false (.t 16),none⟩::⟨some 18,.ln (.t 17),none⟩::⟨some 19,.bin .lss (.t 15) (.t 18),none⟩::[])) (.cond (.t 19) .skip (.exit 0))) (.seq (.block 1 (.reg (⟨some 22,.mv (.t 5),none⟩::⟨some 23,.mv (.t 4),none⟩::⟨some 24,.fa 4 (.t 3),none⟩::⟨some 25,.ld 1 false (.t 24),none⟩::⟨some 26,.mv (.t 6),none⟩::⟨some 27,.ia 1 (.t 25) (.t 26),none⟩::⟨some 28,.ld 1 false (.t 27),none⟩::⟨some 29,.call (.c (.fn 15 [])) [(.t 23),(.t 28)],none⟩::⟨some 30,.bsl 1 1 [.int .i64 0] [(0,(.t 29))],none⟩::⟨some 31,.ap 1 8 (.t 22) (.t 30),none⟩::⟨some 5,.mv (.t 31),none⟩::[]))) (.reg (⟨some 20,.mv (.t 6),none⟩::⟨some 21,.bin .add (.t 20) (.c (.int .i64 1)),none⟩::⟨some 6,.mv (.t 21),none⟩::[]))))))) (.seq (.reg (⟨some 32,.mv (.t 5),none⟩::⟨some 33,.fa 4 (.t 3),none⟩::⟨none,.st 1 (.t 33) (.t 32),none⟩::[])) (.seq (.reg (⟨some 34,.ld 5 true (.t 3),none⟩::⟨none,.st 5 (.t 2) (.t 34),none⟩::[])) .ret)))))))
theorem cd_fretworklaw13_Task_Matrix : Code1 Tryz.prog 5 35 ir_fretworklaw13_Task_Matrix [.c 5 true 2]:=⟨Tryz.call5,_,_,Tryz.func5,rfl,by kernel_rfl,by kernel_rfl,by kernel_rfl,by kernel_rfl⟩
section
variable (r a b : Int) (l : List Tri) (x y : List (Int × Int)) (f : List Nat) (o : Bool) (ha : 0 <= a /\ a <= 255) (hb : 0 <= b /\ b <= 255) (hl : ∀ x ∈ l,I64 x.2.2)
include ha hb hl
set_option maxHeartbeats 8000000 in
theorem fo_Matrix : FO Tryz.prog 5 [TK r a b l x y f o] (MW (tkM r a b l)) [.arr 1 (zs (tkM r a b l).2.2.2.2)]:=by
  refine fo_of_cvc mixed cd_fretworklaw13_Task_Matrix (by simp) ?_
  have c1:=fs_Some7 a b l ha hb hl
  have c2:=fs_Right13 r
  have hlen : (smM (a.tmod 40) (b.tmod 40) l).2.2.2.2.length <= 60:=by
    have h1:=cmbR_len 1 (tris (a.tmod 40) (b.tmod 40) (l.take 60))
    have h2:=tris_len (a.tmod 40) (b.tmod 40) (l.take 60)
    have h3:=take60 l
    simp only [smM,bM,List.length_map]
    omega
  obtain ⟨M,hM⟩ : ∃ M,tkM r a b l = M:=⟨_,rfl⟩
  rw [hM]
  unfold tkM at hM
  generalize smM (a.tmod 40) (b.tmod 40) l = m at *
  generalize rgt r = R at *
  obtain ⟨m1,m2,m3,m4,V⟩:=m
  have c1' : FS Tryz.prog 14 [.agg [.int .u8 a,.int .u8 b],EL l] (MX m1 m2 m3 m4 V):=c1
  simp only at hlen hM
  have hzv:=zs_len V
  repeat' (conv=>whnf); first |(refine Or.inl ⟨by rfl,_,c1',?_⟩) |(refine Or.inl ⟨by rfl,_,c2,?_⟩) |(refine And.intro (show _ <= _ from Nat.le_of_ble_eq_true rfl) ?_) | refine And.intro rfl ?_ | fail
  refine ⟨Nat,fun k=>k <= V.length,fun k=>[(2,.ptr 1 0 0 0),(3,.ptr 2 0 0 0),(4,.int .i64 R),(5,.osl 3 1 0 k),(6,.int .i64 (k : Int))],fun k=>[.dead,.vars [.int .i64 0,.int .i64 0,.nils,.nils,.nils],.vars [.int .i64 m1,.int .i64 m2,Z m3,Z m4,Z V],.arr 1 (zs ((V.take k).map (facR R)))],fun _=>none,fun k=>V.length - k,
    ⟨0,Nat.zero_le _,⟨rfl,rfl,rfl,⟨Nat.le_of_ble_eq_true rfl,rfl,rfl⟩,rfl,trivial⟩,⟨trivial,⟨rfl,rfl,rfl,rfl,rfl,trivial⟩,⟨rfl,rfl,rfl,rfl,rfl,trivial⟩,rfl,trivial⟩,rfl⟩,fun k hk=>?_⟩
  have hk : k <= V.length:=hk
  have hkz : (zs ((V.take k).map (facR R))).length = k:=by rw [zs_len,List.length_map,List.length_take]; omega
  by_cases hkl : k < V.length
  . obtain ⟨v,hv⟩ : ∃ v,V.getD k 0 = v:=⟨_,rfl⟩
    have c3:=fs_Factor R v
    have hst : (V.take (k + 1)).map (facR R) = (V.take k).map (facR R) ++ [facR R v]:=map_takeA _ (by rw [<- hv]; simp [hkl])
    repeat' (conv=>whnf); first |(refine zs_go (i:=k) (by omega) hv ?_) |(refine Or.inl ⟨by rfl,_,c3,?_⟩) |(refine And.intro (Or.inl (Nat.zero_le _)) ?_) |(refine And.intro (show _ <= _ from Nat.le_of_ble_eq_true rfl) ?_) |((refine And.intro (by intro y hy; simp at hy; subst hy; rfl) ?_)) |(refine Br.dec (fun h=>?_) (fun h=>?_)) <;> try (exfalso; omega) | refine And.intro rfl ?_ |(refine And.intro (by omega) ?_) |(refine ⟨_,Or.inl ⟨⟨by omega,by omega⟩,rfl⟩,?_⟩) |(refine And.intro (by simp only [lens_all,zs_len]; first | done | omega) ?_) | fail
    refine ⟨k + 1,(show k + 1 <= V.length by omega),(show V.length - (k + 1) < V.length - k by omega),⟨rfl,rfl,rfl,rfl,rfl,trivial⟩,⟨trivial,⟨rfl,rfl,rfl,rfl,rfl,trivial⟩,⟨rfl,rfl,rfl,rfl,rfl,trivial⟩,?_,trivial⟩,rfl⟩
    refine congrArg (Blk.arr 1) ?_
    rw [hst,zs_append]; rfl
  . obtain rfl : k = V.length:=by omega
    subst hM
    repeat' (conv=>whnf); first |(refine And.intro (show _ <= _ from Nat.le_of_ble_eq_true rfl) ?_) |(refine Br.dec (fun h=>?_) (fun h=>?_)) <;> try (exfalso; omega) | refine And.intro rfl ?_ | fail
    conv=>whnf
    unfold MW
    simp only [List.length_map]
    rw [show V.take V.length = V from List.take_length]
    exact Or.inr (Or.inr (FoS.one 3 (MatL.agg (.cons (.same _ rfl) (.cons (.same _ rfl) (.cons (.same _ rfl) (.cons (.same _ rfl) (.cons (.osl 0 3 1 0 _ rfl) .nil)))))) rfl rfl))
theorem fs_Matrix : FS Tryz.prog 5 [TK r a b l x y f o] (MV (tkM r a b l)):=by
  refine fs_of_fo (fo_Matrix r a b l x y f o ha hb hl) ?_
  refine ⟨rfl,by rw [zs_len]; simp,?_⟩
  show SV.agg [_,_,_,_,.slc 1 (List.take _ (List.drop 0 (zs (tkM r a b l).2.2.2.2)))] = MV (tkM r a b l)
  rw [frz_zl rfl]; rfl
end
def tkV (r b : Int) (l : List (Int × Int)) : Int × List (Int × Int):=((smR (b.tmod 40) l).1,(smR (b.tmod 40) l).2.1.map fun x=>(x.1,valR (rgt r) x.2))
def ir_fretworklaw13_Task_Vector : IR :=
(.seq (.reg (⟨some 2,.bx (.t 0),none⟩::⟨some 4,.al [.int .i64 0,.nils],none⟩::[])) (.seq (.reg (⟨some 8,.fa 1 (.t 2),none⟩::⟨some 9,.iaA 2 1 (.t 8) (.c (.int .i64 1)),none⟩::⟨some 10,.ld 1 false (.t 9),none⟩::⟨some 11,.call (.c (.fn 17 [])) [(.t 10)],none⟩::⟨some 12,.cv .u8 (.t 11),none⟩::⟨some 13,.mv (.t 1),none⟩::⟨some 14,.call (.c (.fn 16 [])) [(.t 12),(.t 13)],none⟩::⟨some 5,.al [.int .i64 0,.nils],none⟩::⟨none,.st 2 (.t 5) (.t 14),none⟩::[])) (.seq (.reg (⟨some 6,.mv (.c (.nils)),none⟩::[])) (.seq (.seq (.reg (⟨some 7,.mv (.c (.int .i64 0)),none⟩::[])) (.block 0 (.loop (.seq (.seq (.reg (⟨some 15,.mv (.t 7),none⟩::⟨some 16,.fa 1 (.t 5),none⟩::⟨some 17,.ld 1 false (.t 16),none⟩::⟨some 18,.ln (.t 17),none⟩::⟨some 19,.bin .lss (.t 15) (.t 18),none⟩::[])) (.cond (.t 19) .skip (.exit 0))) (.seq (.block 1 (.draw (⟨some 22,.mv (.t 6),none⟩::⟨some 23,.fa 1 (.t 5),none⟩::⟨some 24,.ld 1 false (.t 23),none⟩::⟨some 25,.mv (.t 7),none⟩::⟨some 26,.ia 2 (.t 24) (.t 25),none⟩::⟨some 27,.fa 0 (.t 26),none⟩::⟨some 28,.ld 1 false (.t 27),none⟩::⟨some 29,.fa 0 (.t 2),none⟩::⟨some 30,.ld 1 false (.t 29),none⟩::⟨some 31,.call (.c (.fn 4 [])) [(.t 30)],none⟩::⟨some 32,.fa 1 (.t 5),none⟩::⟨some 33,.ld 1 false (.t 32),none⟩::⟨some 34,.mv (.t 7),none⟩::⟨some 35,.ia 2 (.t 33) (.t 34),none⟩::⟨some 36,.fa 1 (.t 35),none⟩::⟨some 37,.ld 1 false (.t 36),none⟩::⟨some 38,.call (.c (.fn 18 [])) [(.t 31),(.t 37)],none⟩::⟨some 39,.bld [.int .i64 0,.int .i64 0] [(0,1,(.t 28)),(1,1,(.t 38))],none⟩::⟨some 40,.bsl 1 2 [.int .i64 0,.int .i64 0] [(0,(.t 39))],none⟩::[]) (⟨some 41,.ap 2 16 (.t 22) (.t 40),none⟩::⟨some 6,.mv (.t 41),none⟩::[]))) (.reg (⟨some 20,.mv (.t 7),none⟩::⟨some 21,.bin .add (.t 20) (.c (.int .i64 1)),none⟩::⟨some 7,.mv (.t 21),none⟩::[]))))))) (.seq (.reg (⟨some 42,.fa 0 (.t 5),none⟩::⟨some 43,.ld 1 false (.t 42),none⟩::⟨some 44,.mv (.t 6),none⟩::⟨some 45,.bld [.int .i64 0,.nils] [(0,1,(.t 43)),(1,1,(.t 44))],none⟩::⟨none,.st 2 (.t 4) (.t 45),none⟩::[])) .ret)))))
theorem cd_fretworklaw13_Task_Vector : Code1 Tryz.prog 6 46 ir_fretworklaw13_Task_Vector [.c 2 true 4]:=⟨Tryz.call6,_,_,Tryz.func6,rfl,by kernel_rfl,by kernel_rfl,by kernel_rfl,by kernel_rfl⟩
set_option maxHeartbeats 8000000 in
theorem fs_Vector (r a b : Int) (l : List Tri) (x y : List (Int × Int)) (f : List Nat) (o : Bool) (w : List (Int × Int)) (hb : 0 <= b /\ b <= 255) (hw : Ib w) : FS Tryz.prog 6 [TK r a b l x y f o,IL w] (VC (tkV r b w).1 (tkV r b w).2):=by
  refine fs_of_cvc mixed cd_fretworklaw13_Task_Vector (by simp) ?_
  have c1:=fs_Size7 b hb
  have hc:=tmod_bd (a:=b) (k:=40) hb.1 (by omega)
  have c2:=fs_Some (b.tmod 40) w ⟨hc.1,by omega⟩ hw
  obtain ⟨A,eA,hA,_,hlA⟩:=sm_ok (n:=b.tmod 40) ⟨hc.1,by omega⟩ hw
  have c3:=fs_Right13 r
  have ht : tkV r b w = ((b.tmod 40).tmod 60,A.map fun x=>(x.1,valR (rgt r) x.2)):=by unfold tkV; rw [eA]
  rw [eA] at c2
  rw [ht]
  generalize rgt r = R at *
  generalize b.tmod 40 = K at *
  generalize K.tmod 60 = N at *
  have hAl:=its_len A
  repeat' (conv=>whnf); first |(refine Or.inl ⟨by rfl,_,c1,?_⟩) |(refine Or.inl ⟨by rfl,_,c2,?_⟩) |(refine And.intro (show _ <= _ from Nat.le_of_ble_eq_true rfl) ?_) | refine And.intro rfl ?_ |(refine And.intro (by omega) ?_) |(refine ⟨_,Or.inl ⟨⟨by omega,by omega⟩,rfl⟩,?_⟩) | fail
  refine ⟨Nat,fun k=>k <= A.length,fun k=>[(2,.ptr 0 0 0 0),(4,.ptr 1 0 0 0),(5,.ptr 2 0 0 0),(6,.osl 3 2 0 k),(7,.int .i64 (k : Int))],fun k=>[.vars [.int .i64 r,.any,.any,.any,.any,.any,.any,.any],.vars [.int .i64 0,.nils],.vars [.int .i64 N,IL A],.arr 2 (its ((A.take k).map fun x=>(x.1,valR R x.2)))],fun _=>none,fun k=>A.length - k,
    ⟨0,Nat.zero_le _,⟨rfl,rfl,rfl,⟨Nat.le_of_ble_eq_true rfl,rfl,rfl⟩,rfl,trivial⟩,⟨⟨rfl,trivial,trivial,trivial,trivial,trivial,trivial,trivial,trivial⟩,⟨rfl,rfl,trivial⟩,⟨rfl,rfl,trivial⟩,rfl,trivial⟩,rfl⟩,fun k hk=>?_⟩
  have hk : k <= A.length:=hk
  have hkz : (its ((A.take k).map fun x=>(x.1,valR R x.2))).length = k:=by rw [its_len,List.length_map,List.length_take]; omega
  by_cases hkl : k < A.length
  . obtain ⟨v,hv⟩ : ∃ v,A.getD k (0,0) = v:=⟨_,rfl⟩
    have c4:=fs_Value R v.2
    have hst : (A.take (k + 1)).map (fun x=>(x.1,valR R x.2)) = (A.take k).map (fun x=>(x.1,valR R x.2)) ++ [(v.1,valR R v.2)]:=map_takeA _ (by rw [<- hv]; exact getD_some hkl)
    repeat' (conv=>whnf); first |(refine its_go' (i:=k) (by omega) hv ?_) |(refine Or.inl ⟨by rfl,_,c3,?_⟩) |(refine Or.inl ⟨by rfl,_,c4,?_⟩) |(refine And.intro (Or.inl (Nat.zero_le _)) ?_) |(refine And.intro (show _ <= _ from Nat.le_of_ble_eq_true rfl) ?_) |((refine And.intro (by intro y hy; simp at hy; subst hy; rfl) ?_)) |(refine Br.dec (fun h=>?_) (fun h=>?_)) <;> try (exfalso; omega) | refine And.intro rfl ?_ |(refine And.intro (by omega) ?_) |(refine ⟨_,Or.inl ⟨⟨by omega,by omega⟩,rfl⟩,?_⟩) |(refine And.intro (by simp only [lens_all,its_len]; first | done | omega) ?_) | fail
    refine ⟨k + 1,(show k + 1 <= A.length by omega),(show A.length - (k + 1) < A.length - k by omega),⟨rfl,rfl,rfl,rfl,rfl,trivial⟩,⟨⟨rfl,trivial,trivial,trivial,trivial,trivial,trivial,trivial,trivial⟩,⟨rfl,rfl,trivial⟩,⟨rfl,rfl,trivial⟩,?_,trivial⟩,rfl⟩
    refine congrArg (Blk.arr 2) ?_
    rw [hst,its_append]; rfl
  . obtain rfl : k = A.length:=by omega
    repeat' (conv=>whnf); first |(refine And.intro (show _ <= _ from Nat.le_of_ble_eq_true rfl) ?_) |(refine Br.dec (fun h=>?_) (fun h=>?_)) <;> try (exfalso; omega) | refine And.intro rfl ?_ |(refine And.intro (by omega) ?_) | fail
    conv=>whnf
    have e1 : A.take A.length = A:=List.take_length
    rw [e1,List.drop_zero,List.take_of_length_le (by rw [its_len,List.length_map]; omega)]
    rfl
theorem tkV_ok {r b : Int} {w : List (Int × Int)} (hb : 0 <= b /\ b <= 255) (hw : Ib w) : ∃ A : List (Int × Int),(tkV r b w).1 = b.tmod 40 /\ (tkV r b w).2 = A.map (fun x=>(x.1,valR (rgt r) x.2)) /\ OkV (b.tmod 40) A /\ Ib A /\ A.length <= 60:=by
  have hc:=tmod_bd (a:=b) (k:=40) hb.1 (by omega)
  obtain ⟨A,eA,hA,iA,hlA⟩:=sm_ok (n:=b.tmod 40) ⟨hc.1,by omega⟩ hw
  have e60 : (b.tmod 40).tmod 60 = b.tmod 40:=by
    rw [Int.tmod_eq_emod_of_nonneg hc.1]; omega
  rw [e60] at eA hA
  refine ⟨A,?_,?_,hA,iA,hlA⟩
  . unfold tkV; rw [eA]
  . unfold tkV; rw [eA]
end
end Go.Proofs.YtelbhbadkbcakaaGreat
