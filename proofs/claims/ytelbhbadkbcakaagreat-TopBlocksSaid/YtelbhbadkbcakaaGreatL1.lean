/- Blocks: how many parts, where they begin; a matrix's row. In which form a vector is held, and which way a product is reckoned. -/
import Derived.Test.YtelbhbadkbcakaaGreatK3
import Derived.Test.YtelbhbadkbcakaaGreatD5
namespace Go.Proofs.YtelbhbadkbcakaaGreat
section
open Go.RowKit
attribute [local irreducible] FS FO IT HS
def ir_fretworklaw18_Side : IR :=
(.seq (.reg (⟨some 2,.mv (.c (.int .i64 0)),none⟩::[])) (.seq (.reg (⟨some 3,.mv (.t 0),none⟩::⟨some 4,.cv .i64 (.t 3),none⟩::⟨some 5,.bin .rem (.t 4) (.c (.int .i64 8)),none⟩::⟨some 6,.bin .add (.t 5) (.c (.int .i64 1)),none⟩::⟨some 2,.mv (.t 6),none⟩::[])) .ret))
theorem cd_fretworklaw18_Side : Code1 Tryz.prog 7 7 ir_fretworklaw18_Side [.t 2]:=⟨Tryz.call7,_,_,Tryz.func7,rfl,by kernel_rfl,by kernel_rfl,by kernel_rfl,by kernel_rfl⟩
theorem fs_Side (n : Int) (hn : 0 <= n /\ n <= 255) : FS Tryz.prog 7 [.int .u8 n] (.int .i64 (n.tmod 8 + 1)):=by
  refine fs_of_cvc mixed cd_fretworklaw18_Side (by simp) ?_
  have h:=tmod_bd (a:=n) (k:=8) hn.1 (by omega)
  repeat' (conv=>whnf); first | refine And.intro rfl ?_ |(refine And.intro (by omega) ?_) |(refine ⟨_,Or.inl ⟨⟨by omega,by omega⟩,rfl⟩,?_⟩) | fail
  all_goals exact rfl
def ir_block_side : IR :=
(.seq (.reg (⟨some 2,.mv (.c (.bool false)),none⟩::[])) (.seq (.reg (⟨some 3,.mv (.t 0),none⟩::⟨some 4,.bin .geq (.t 3) (.c (.int .i64 1)),none⟩::⟨some 5,.mv (.t 4),none⟩::⟨some 6,.mv (.t 0),some (5,true)⟩::⟨some 7,.bin .leq (.t 6) (.c (.int .i64 8)),some (5,true)⟩::⟨some 8,.pick (.t 5) (.t 7) (.c (.bool false)),none⟩::⟨some 2,.mv (.t 8),none⟩::[])) .ret))
theorem cd_block_side : Code1 Tryz.prog 23 9 ir_block_side [.t 2]:=⟨Tryz.call23,_,_,Tryz.func23,rfl,by kernel_rfl,by kernel_rfl,by kernel_rfl,by kernel_rfl⟩
theorem fs_bside (k : Int) : FS Tryz.prog 23 [.int .i64 k] (.bool (sideB k)):=by
  refine fs_of_cvc mixed cd_block_side (by simp) ?_
  repeat' (conv=>whnf); first | refine Br.tt ?_ | refine Br.ff ?_ |(refine Br.dec (fun h=>?_) (fun h=>?_)) <;> try (exfalso; omega) | refine And.intro rfl ?_ | fail
  all_goals (show SV.bool _ = SV.bool _; congr 1; unfold sideB; rw [Bool.eq_iff_iff]; simp; omega)
def GridI (r c i j : Int) : Prop:=1 <= r /\ r <= 8 /\ 1 <= c /\ c <= 8 /\ 0 <= i /\ i < r /\ 0 <= j /\ j < c
theorem sideB_of {k : Int} (h1 : 1 <= k) (h2 : k <= 8) : sideB k = true:=by
  unfold sideB
  rw [Bool.and_eq_true,decide_eq_true_eq,decide_eq_true_eq]; omega
def ir_block_grid : IR :=
(.seq (.reg (⟨some 8,.mv (.c (.bool false)),none⟩::[])) (.seq (.reg (⟨some 9,.mv (.t 0),none⟩::⟨some 10,.call (.c (.fn 23 [])) [(.t 9)],none⟩::⟨some 11,.mv (.t 10),none⟩::⟨some 12,.mv (.t 1),some (11,true)⟩::⟨some 13,.call (.c (.fn 23 [])) [(.t 12)],some (11,true)⟩::⟨some 14,.pick (.t 11) (.t 13) (.c (.bool false)),none⟩::⟨some 15,.mv (.t 14),none⟩::⟨some 16,.mv (.t 2),some (15,true)⟩::⟨some 17,.bin .geq (.t 16) (.c (.int .i64 0)),some (15,true)⟩::⟨some 18,.pick (.t 15) (.t 17) (.c (.bool false)),none⟩::⟨some 19,.mv (.t 18),none⟩::⟨some 20,.mv (.t 2),some (19,true)⟩::⟨some 21,.mv (.t 0),some (19,true)⟩::⟨some 22,.bin .lss (.t 20) (.t 21),some (19,true)⟩::⟨some 23,.pick (.t 19) (.t 22) (.c (.bool false)),none⟩::⟨some 24,.mv (.t 23),none⟩::⟨some 25,.mv (.t 3),some (24,true)⟩::⟨some 26,.bin .geq (.t 25) (.c (.int .i64 0)),some (24,true)⟩::⟨some 27,.pick (.t 24) (.t 26) (.c (.bool false)),none⟩::⟨some 28,.mv (.t 27),none⟩::⟨some 29,.mv (.t 3),some (28,true)⟩::⟨some 30,.mv (.t 1),some (28,true)⟩::⟨some 31,.bin .lss (.t 29) (.t 30),some (28,true)⟩::⟨some 32,.pick (.t 28) (.t 31) (.c (.bool false)),none⟩::⟨some 8,.mv (.t 32),none⟩::[])) .ret))
theorem cd_block_grid : Code1 Tryz.prog 79 33 ir_block_grid [.t 8]:=⟨Tryz.call79,_,_,Tryz.func79,rfl,by kernel_rfl,by kernel_rfl,by kernel_rfl,by kernel_rfl⟩
theorem fs_bgrid {r c i j : Int} (h : GridI r c i j) : FS Tryz.prog 79 [.int .i64 r,.int .i64 c,.int .i64 i,.int .i64 j] (.bool true):=by
  refine fs_of_cvc mixed cd_block_grid (by simp) ?_
  obtain ⟨h1,h2,h3,h4,h5,h6,h7,h8⟩:=h
  have c1:=fs_bside r
  have c2:=fs_bside c
  rw [sideB_of h1 h2] at c1
  rw [sideB_of h3 h4] at c2
  repeat' (conv=>whnf); first |(refine Or.inl ⟨by rfl,_,c1,?_⟩) |(refine Or.inl ⟨by rfl,_,c2,?_⟩) | refine Br.tt ?_ |(refine Br.dec (fun h=>?_) (fun h=>?_)) <;> try (exfalso; omega) | refine And.intro rfl ?_ | fail
  all_goals (show SV.bool _ = SV.bool _; simp; try omega)
def ir_block_bounds : IR :=
(.seq (.reg (⟨some 6,.al [.int .i64 0,.int .i64 0],none⟩::[])) (.seq (.reg (⟨some 7,.mv (.t 0),none⟩::⟨some 8,.mv (.t 1),none⟩::⟨some 9,.mv (.t 2),none⟩::⟨some 10,.call (.c (.fn 38 [])) [(.t 7),(.t 8),(.t 9)],none⟩::⟨some 11,.mv (.t 0),none⟩::⟨some 12,.mv (.t 1),none⟩::⟨some 13,.mv (.t 2),none⟩::⟨some 14,.bin .add (.t 13) (.c (.int .i64 1)),none⟩::⟨some 15,.call (.c (.fn 38 [])) [(.t 11),(.t 12),(.t 14)],none⟩::⟨some 16,.bld [.int .i64 0,.int .i64 0] [(0,1,(.t 10)),(1,1,(.t 15))],none⟩::⟨none,.st 2 (.t 6) (.t 16),none⟩::[])) .ret))
theorem cd_block_bounds : Code1 Tryz.prog 80 17 ir_block_bounds [.c 2 true 6]:=⟨Tryz.call80,_,_,Tryz.func80,rfl,by kernel_rfl,by kernel_rfl,by kernel_rfl,by kernel_rfl⟩
theorem fs_bbounds (n k i : Int) (hi : 0 <= i /\ i <= 1000) : FS Tryz.prog 80 [.int .i64 n,.int .i64 k,.int .i64 i] (.agg [.int .i64 (lowI n k i),.int .i64 (lowI n k (i + 1))]):=by
  refine fs_of_cvc mixed cd_block_bounds (by simp) ?_
  have c1:=fs_Low n k i
  have c2:=fs_Low n k (i + 1)
  generalize lowI n k i = x at *
  generalize lowI n k (i + 1) = y at *
  repeat' (conv=>whnf); first |(refine Or.inl ⟨by rfl,_,c1,?_⟩) |(refine Or.inl ⟨by rfl,_,c2,?_⟩) |(refine And.intro (show _ <= _ from Nat.le_of_ble_eq_true rfl) ?_) | refine And.intro rfl ?_ |(refine ⟨_,Or.inl ⟨⟨by omega,by omega⟩,rfl⟩,?_⟩) | fail
  all_goals exact rfl
theorem fs_cbnd (x y most : Int) (h : 0 <= x /\ x <= y /\ y <= most /\ most <= 4096) : FS Tryz.prog 47 [.agg [.int .i64 x,.int .i64 y],.int .i64 most] (.tup [.int .i64 x,.int .i64 (y - x)]):=by
  refine fs_of_cvc mixed cd_csr_bounds (by simp) ?_
  have e1 : max x 0 = x:=by omega
  have e2 : min y most = y:=by omega
  repeat' (conv=>whnf); first |(refine Br.dec (fun h=>?_) (fun h=>?_)) <;> try (exfalso; omega) | refine And.intro rfl ?_ |(refine And.intro (by omega) ?_) |(refine ⟨_,Or.inl ⟨⟨by omega,by omega⟩,rfl⟩,?_⟩) | fail
  all_goals (conv=>whnf)
  . rw [e1,show y - x = 0 by omega]
  . rw [e1,e2]
def ir_csr_Row : IR :=
(.seq (.reg (⟨some 2,.bx (.t 0),none⟩::⟨some 4,.mv (.c (.nils)),none⟩::[])) (.seq (.reg (⟨some 10,.ld 5 true (.t 2),none⟩::⟨some 11,.call (.c (.fn 46 [])) [(.t 10)],none⟩::⟨none,.st 5 (.t 2) (.t 11),none⟩::[])) (.seq (.seq (.reg (⟨some 12,.mv (.t 1),none⟩::⟨some 13,.fa 0 (.t 2),none⟩::⟨some 14,.ld 1 false (.t 13),none⟩::⟨some 15,.bin .sub (.t 14) (.c (.int .i64 1)),none⟩::⟨some 16,.call (.c (.fn 43 [])) [(.t 12),(.t 15)],none⟩::⟨some 17,.un .not (.t 16),none⟩::[])) (.cond (.t 17) (.seq (.reg (⟨some 4,.mv (.c (.nils)),none⟩::[])) .ret) .skip)) (.seq (.reg (⟨some 5,.mv (.c (.nils)),none⟩::[])) (.seq (.reg (⟨some 19,.ld 5 true (.t 2),none⟩::⟨some 20,.mv (.t 1),none⟩::⟨some 21,.call (.c (.fn 67 [])) [(.t 19),(.t 20)],none⟩::⟨some 18,.mv (.t 21),none⟩::⟨some 22,.ex 0 (.t 18),none⟩::⟨some 23,.ex 1 (.t 18),none⟩::⟨some 6,.mv (.t 22),none⟩::⟨some 7,.mv (.t 23),none⟩::[])) (.seq (.seq (.reg (⟨some 24,.mv (.t 6),none⟩::⟨some 25,.ln (.t 24),none⟩::⟨some 26,.mv (.c (.int .i64 0)),none⟩::[])) (.block 0 (.loop (.seq (.reg (⟨some 27,.bin .lss (.t 26) (.t 25),none⟩::[])) (.seq (.cond (.t 27) .skip (.exit 0)) (.seq (.block 1 (.seq (.reg (⟨some 28,.mv (.t 26),none⟩::⟨some 29,.ia 1 (.t 24) (.t 26),none⟩::⟨some 30,.ld 1 false (.t 29),none⟩::⟨some 8,.mv (.t 28),none⟩::⟨some 9,.mv (.t 30),none⟩::[])) (.reg (⟨some 31,.mv (.t 5),none⟩::⟨some 32,.mv (.t 9),none⟩::⟨some 33,.mv (.t 7),none⟩::⟨some 34,.mv (.t 8),none⟩::⟨some 35,.ia 1 (.t 33) (.t 34),none⟩::⟨some 36,.ld 1 false (.t 35),none⟩::⟨some 37,.bld [.int .i64 0,.int .i64 0] [(0,1,(.t 32)),(1,1,(.t 36))],none⟩::⟨some 38,.bsl 1 2 [.int .i64 0,.int .i64 0] [(0,(.t 37))],none⟩::⟨some 39,.ap 2 16 (.t 31) (.t 38),none⟩::⟨some 5,.mv (.t 39),none⟩::[])))) (.reg (⟨some 40,.bin .add (.t 26) (.c (.int .i64 1)),none⟩::⟨some 26,.mv (.t 40),none⟩::[])))))))) (.seq (.reg (⟨some 41,.mv (.t 5),none⟩::⟨some 4,.mv (.t 41),none⟩::[])) .ret)))))))
theorem cd_csr_Row : Code1 Tryz.prog 48 42 ir_csr_Row [.t 4]:=⟨Tryz.call48,_,_,Tryz.func48,rfl,by kernel_rfl,by kernel_rfl,by kernel_rfl,by kernel_rfl⟩
theorem fs_cRow {rows cols : Int} {L : List Tri} (hT : OkT rows cols L) (i : Nat) (hi : (i : Int) < rows) : FS Tryz.prog 48 [MTr rows cols L,.int .i64 (i : Int)] (IL (colT L (i : Int))):=by
  refine fs_of_cvc mixed cd_csr_Row (by simp) ?_
  have hr:=hT.r
  have c1:=fs_Tsure hT
  have c2:=fs_cwithin (i : Int) (rows - 1)
  rw [decide_eq_true (by omega),decide_eq_true (by omega)] at c2
  have c3:=fs_part hT i hi
  have hpl:=pt_length L i
  have hcl:=cntB_le L (i + 1)
  have hll:=hT.len
  have hz1:=zs_len ((ptL L i).map fun x=>x.2.1)
  have hz2:=zs_len ((ptL L i).map fun x=>x.2.2)
  have hl1 : ((ptL L i).map fun x=>x.2.1).length = (ptL L i).length:=by simp
  have hl2 : ((ptL L i).map fun x=>x.2.2).length = (ptL L i).length:=by simp
  have ec : colT L (i : Int) = (ptL L i).map fun x=>(x.2.1,x.2.2):=by unfold colT; rw [Int.toNat_natCast]
  rw [ec]
  generalize ptL L i = T at *
  repeat' (conv=>whnf); first |(refine Or.inl ⟨by rfl,_,c1,?_⟩) |(refine Or.inl ⟨by rfl,_,c2,?_⟩) |(refine Or.inl ⟨by rfl,_,c3,?_⟩) |(refine And.intro (show _ <= _ from Nat.le_of_ble_eq_true rfl) ?_) | refine Br.ff ?_ | refine And.intro rfl ?_ |(refine ⟨_,Or.inl ⟨⟨by omega,by omega⟩,rfl⟩,?_⟩) | fail
  refine ⟨Nat,fun k=>k <= T.length,fun k=>[(5,.osl 1 2 0 k),(7,Z (T.map fun x=>x.2.2)),(24,Z (T.map fun x=>x.2.1)),(25,.int .i64 (T.length : Int)),(26,.int .i64 (k : Int))],fun k=>[.vars [.int .i64 rows,.int .i64 cols,Z (stB rows L),Z (L.map fun x=>x.2.1),Z (L.map fun x=>x.2.2)],.arr 2 (its ((T.take k).map fun x=>(x.2.1,x.2.2)))],fun _=>none,fun k=>T.length - k,⟨0,Nat.zero_le _,⟨⟨Nat.le_refl _,rfl,rfl⟩,rfl,rfl,?_,rfl,trivial⟩,⟨⟨rfl,rfl,rfl,rfl,rfl,trivial⟩,rfl,trivial⟩,rfl⟩,fun k hk=>?_⟩
  . show SV.int .i64 _ = SV.int .i64 _
    rw [zs_len,hl1]
  have hk' : k <= T.length:=hk
  have hel : (its ((T.take k).map fun x=>(x.2.1,x.2.2))).length = k:=by rw [its_len]; simp; omega
  by_cases hkn : k < T.length
  . obtain ⟨x,hx⟩ : ∃ x,T[k]? = some x:=⟨_,List.getElem?_eq_getElem (by omega)⟩
    have g1:=map_getD (fun x=>x.2.1) hx
    have g2:=map_getD (fun x=>x.2.2) hx
    have hmore : (T.take (k + 1)).map (fun x=>(x.2.1,x.2.2)) = (T.take k).map (fun x=>(x.2.1,x.2.2)) ++ [(x.2.1,x.2.2)]:=by
      rw [List.take_add_one,hx,List.map_append]; rfl
    repeat' (conv=>whnf); first |(refine zs_go (i:=k) (by omega) g1 ?_) |(refine zs_go (i:=k) (by omega) g2 ?_) |((refine And.intro (fun y hy=>by rcases List.mem_singleton.1 hy with rfl; rfl) ?_)) |(refine And.intro (show _ <= _ from Nat.le_of_ble_eq_true rfl) ?_) |(refine Br.dec (fun h=>?_) (fun h=>?_)) <;> try (exfalso; omega) | refine And.intro rfl ?_ |(refine And.intro (by omega) ?_) |(refine ⟨_,Or.inl ⟨⟨by omega,by omega⟩,rfl⟩,?_⟩) |(refine And.intro (by simp only [lens_all]; first | done | omega) ?_) | fail
    refine ⟨k + 1,(show k + 1 <= T.length by omega),(show T.length - (k + 1) < T.length - k by omega),⟨rfl,rfl,rfl,rfl,rfl,trivial⟩,⟨⟨rfl,rfl,rfl,rfl,rfl,trivial⟩,?_,trivial⟩,rfl⟩
    refine congrArg (Blk.arr 2) ?_
    rw [hmore,its_append]; rfl
  . obtain rfl : k = T.length:=by omega
    repeat' (conv=>whnf); first |(refine Br.dec (fun h=>?_) (fun h=>?_)) <;> try (exfalso; omega) | refine And.intro rfl ?_ |(refine And.intro (by omega) ?_) | fail
    have e1 : T.take T.length = T:=List.take_length
    have hml : T.length = (T.map fun x=>(x.2.1,x.2.2)).length:=by simp
    conv=>whnf
    rw [e1,frz_len hml]
end
section
open Go.RowKit
attribute [local irreducible] FS FO IT HS
def shI (f items n : Int) : Int:=if f = 1 \/ f = 2 then f else if items > n / 8 then 2 else 1
def dirI (f work n : Int) : Int:=if f = 1 \/ f = 2 then f else if work > n / 4 then 2 else 1
def ir_policy_Shape : IR :=
(.seq (.reg (⟨some 6,.mv (.c (.int .i64 0)),none⟩::[])) (.seq (.seq (.reg (⟨some 7,.mv (.t 0),none⟩::[])) (.block 0 (.seq (.seq (.reg (⟨some 9,.bin .eql (.t 7) (.c (.int .i64 1)),none⟩::⟨some 8,.mv (.t 9),none⟩::[])) (.cond (.t 8) .skip (.reg (⟨some 10,.bin .eql (.t 7) (.c (.int .i64 2)),none⟩::⟨some 8,.mv (.t 10),none⟩::[])))) (.cond (.t 8) (.seq (.reg (⟨some 11,.mv (.t 0),none⟩::⟨some 6,.mv (.t 11),none⟩::[])) .ret) .skip)))) (.seq (.seq (.reg (⟨some 12,.mv (.t 1),none⟩::⟨some 13,.mv (.t 2),none⟩::⟨some 14,.bin .quo (.t 13) (.c (.int .i64 8)),none⟩::⟨some 15,.bin .gtr (.t 12) (.t 14),none⟩::[])) (.cond (.t 15) (.seq (.reg (⟨some 6,.mv (.c (.int .i64 2)),none⟩::[])) .ret) .skip)) (.seq (.reg (⟨some 6,.mv (.c (.int .i64 1)),none⟩::[])) .ret))))
theorem cd_policy_Shape : Code1 Tryz.prog 35 16 ir_policy_Shape [.t 6]:=⟨Tryz.call35,_,_,Tryz.func35,rfl,by kernel_rfl,by kernel_rfl,by kernel_rfl,by kernel_rfl⟩
theorem fs_Shape (f items n : Int) (h0 : 0 <= n) (h1 : n <= 1000000) : FS Tryz.prog 35 [.int .i64 f,.int .i64 items,.int .i64 n] (.int .i64 (shI f items n)):=by
  refine fs_of_cvc mixed cd_policy_Shape (by simp) ?_
  repeat' (conv=>whnf); first |(refine ar_tdiv (by omega) (by omega) (by omega) ?_) | refine Br.tt ?_ |(refine Br.dec (fun h=>?_) (fun h=>?_)) <;> try (exfalso; omega) | refine And.intro rfl ?_ |(refine And.intro (by omega) ?_) | fail
  all_goals (show SV.int .i64 _ = SV.int .i64 _; congr 1; unfold shI; (repeat' split) <;> omega)
def ir_policy_Direction : IR :=
(.seq (.reg (⟨some 6,.mv (.c (.int .i64 0)),none⟩::[])) (.seq (.seq (.reg (⟨some 7,.mv (.t 0),none⟩::[])) (.block 0 (.seq (.seq (.reg (⟨some 9,.bin .eql (.t 7) (.c (.int .i64 1)),none⟩::⟨some 8,.mv (.t 9),none⟩::[])) (.cond (.t 8) .skip (.reg (⟨some 10,.bin .eql (.t 7) (.c (.int .i64 2)),none⟩::⟨some 8,.mv (.t 10),none⟩::[])))) (.cond (.t 8) (.seq (.reg (⟨some 11,.mv (.t 0),none⟩::⟨some 6,.mv (.t 11),none⟩::[])) .ret) .skip)))) (.seq (.seq (.reg (⟨some 12,.mv (.t 1),none⟩::⟨some 13,.mv (.t 2),none⟩::⟨some 14,.bin .quo (.t 13) (.c (.int .i64 4)),none⟩::⟨some 15,.bin .gtr (.t 12) (.t 14),none⟩::[])) (.cond (.t 15) (.seq (.reg (⟨some 6,.mv (.c (.int .i64 2)),none⟩::[])) .ret) .skip)) (.seq (.reg (⟨some 6,.mv (.c (.int .i64 1)),none⟩::[])) .ret))))
theorem cd_policy_Direction : Code1 Tryz.prog 26 16 ir_policy_Direction [.t 6]:=⟨Tryz.call26,_,_,Tryz.func26,rfl,by kernel_rfl,by kernel_rfl,by kernel_rfl,by kernel_rfl⟩
theorem fs_Direction (f work n : Int) (h0 : 0 <= n) (h1 : n <= 1000000) : FS Tryz.prog 26 [.int .i64 f,.int .i64 work,.int .i64 n] (.int .i64 (dirI f work n)):=by
  refine fs_of_cvc mixed cd_policy_Direction (by simp) ?_
  repeat' (conv=>whnf); first |(refine ar_tdiv (by omega) (by omega) (by omega) ?_) | refine Br.tt ?_ |(refine Br.dec (fun h=>?_) (fun h=>?_)) <;> try (exfalso; omega) | refine And.intro rfl ?_ |(refine And.intro (by omega) ?_) | fail
  all_goals (show SV.int .i64 _ = SV.int .i64 _; congr 1; unfold dirI; (repeat' split) <;> omega)
def HV (s n : Int) (W : List (Int × Int)) : SV:=if s = 2 then .agg [.int .i64 2,.int .i64 0,.nils,.int .i64 n,U (toF n W),Z (toL n W)] else .agg [.int .i64 1,.int .i64 n,IL W,.int .i64 0,.nils,.nils]
def ir_policy_Hold : IR :=
(.seq (.reg (⟨some 3,.bx (.t 1),none⟩::⟨some 4,.al [.int .i64 0,.int .i64 0,.nils,.int .i64 0,.nils,.nils],none⟩::[])) (.seq (.seq (.reg (⟨some 5,.ld 2 true (.t 3),none⟩::⟨some 6,.call (.c (.fn 21 [])) [(.t 5)],none⟩::⟨some 7,.un .not (.t 6),none⟩::[])) (.cond (.t 7) (.reg (⟨some 8,.bld [.int .i64 0,.nils] [],none⟩::⟨none,.st 2 (.t 3) (.t 8),none⟩::[])) .skip)) (.seq (.seq (.reg (⟨some 9,.mv (.t 0),none⟩::⟨some 10,.fa 1 (.t 3),none⟩::⟨some 11,.ld 1 false (.t 10),none⟩::⟨some 12,.ln (.t 11),none⟩::⟨some 13,.fa 0 (.t 3),none⟩::⟨some 14,.ld 1 false (.t 13),none⟩::⟨some 15,.call (.c (.fn 35 [])) [(.t 9),(.t 12),(.t 14)],none⟩::⟨some 16,.bin .eql (.t 15) (.c (.int .i64 2)),none⟩::[])) (.cond (.t 16) (.seq (.reg (⟨some 17,.ld 2 true (.t 3),none⟩::⟨some 18,.call (.c (.fn 36 [])) [(.t 17)],none⟩::⟨some 19,.bld [.int .i64 0,.int .i64 0,.nils,.int .i64 0,.nils,.nils] [(0,1,(.c (.int .i64 2))),(3,3,(.t 18))],none⟩::⟨none,.st 6 (.t 4) (.t 19),none⟩::[])) .ret) .skip)) (.seq (.draw (⟨some 20,.fa 0 (.t 3),none⟩::⟨some 21,.ld 1 false (.t 20),none⟩::⟨some 22,.fa 1 (.t 3),none⟩::⟨some 23,.ld 1 false (.t 22),none⟩::⟨some 24,.call (.c (.fn 37 [])) [(.t 23)],none⟩::[]) (⟨some 25,.bld [.int .i64 0,.nils] [(0,1,(.t 21)),(1,1,(.t 24))],none⟩::⟨some 26,.bld [.int .i64 0,.int .i64 0,.nils,.int .i64 0,.nils,.nils] [(0,1,(.c (.int .i64 1))),(1,2,(.t 25))],none⟩::⟨none,.st 6 (.t 4) (.t 26),none⟩::[])) .ret))))
theorem cd_policy_Hold : Code1 Tryz.prog 11 27 ir_policy_Hold [.c 6 true 4]:=⟨Tryz.call11,_,_,Tryz.func11,rfl,by kernel_rfl,by kernel_rfl,by kernel_rfl,by kernel_rfl⟩
theorem fs_Hold (f n : Int) {W : List (Int × Int)} (hV : OkV n W) (hl : W.length <= 1000000) : FS Tryz.prog 11 [.int .i64 f,VC n W] (HV (shI f W.length n) n W):=by
  refine fs_of_cvc mixed cd_policy_Hold (by simp) ?_
  have h0:=hV.n0
  have h1:=hV.n1
  have c1:=fs_vRight n W (by omega)
  rw [hV.isV] at c1
  have c2:=fs_Shape f ((its W).length : Int) n h0 (by omega)
  have es : shI f ((its W).length : Int) n = shI f W.length n:=by rw [its_len]
  rw [es] at c2
  have c3:=fs_dOf n W (by omega)
  rw [hV.sn,hV.sl] at c3
  unfold dV at c3
  have c4:=fo_vClone W (by omega)
  have hil:=its_len W
  generalize shI f W.length n = s at *
  unfold HV
  by_cases hs : s = 2
  . rw [if_pos hs]
    repeat' (conv=>whnf); first |(refine Or.inl ⟨by rfl,_,c1,?_⟩) |(refine Or.inl ⟨by rfl,_,c2,?_⟩) |(refine Or.inl ⟨by rfl,_,c3,?_⟩) |(refine And.intro (show _ <= _ from Nat.le_of_ble_eq_true rfl) ?_) | refine Br.ff ?_ |(refine Br.dec (fun h=>?_) (fun h=>?_)) <;> try (exfalso; omega) | refine And.intro rfl ?_ | fail
    all_goals exact trivial
  . rw [if_neg hs]
    repeat' (conv=>whnf); first |(refine Or.inl ⟨by rfl,_,c1,?_⟩) |(refine Or.inl ⟨by rfl,_,c2,?_⟩) |(refine Or.inr (Or.inl ⟨by rfl,_,_,c4,?_⟩)) |(refine And.intro (show _ <= _ from Nat.le_of_ble_eq_true rfl) ?_) | refine Br.ff ?_ |(refine Br.dec (fun h=>?_) (fun h=>?_)) <;> try (exfalso; omega) | refine And.intro rfl ?_ |(refine And.intro (by omega) ?_) | fail
    conv=>whnf
    rw [frz_len rfl]
    all_goals exact ⟨rfl,rfl,rfl,rfl,trivial⟩
def ir_policy_Vec : IR :=
(.seq (.reg (⟨some 1,.bx (.t 0),none⟩::⟨some 2,.al [.int .i64 0,.nils],none⟩::[])) (.seq (.block 0 (.seq (.reg (⟨some 4,.fa 0 (.t 1),none⟩::⟨some 5,.ld 1 false (.t 4),none⟩::⟨some 6,.bin .eql (.t 5) (.c (.int .i64 2)),none⟩::⟨some 3,.mv (.t 6),none⟩::[])) (.cond (.t 3) (.seq (.reg (⟨some 7,.fa 3 (.t 1),none⟩::⟨some 8,.ld 3 true (.t 7),none⟩::⟨some 9,.call (.c (.fn 64 [])) [(.t 8)],none⟩::⟨none,.st 2 (.t 2) (.t 9),none⟩::[])) .ret) (.seq (.reg (⟨some 11,.fa 0 (.t 1),none⟩::⟨some 12,.ld 1 false (.t 11),none⟩::⟨some 13,.bin .eql (.t 12) (.c (.int .i64 1)),none⟩::⟨some 14,.mv (.t 13),none⟩::⟨some 15,.fa 1 (.t 1),some (14,true)⟩::⟨some 16,.ld 2 true (.t 15),some (14,true)⟩::⟨some 17,.call (.c (.fn 21 [])) [(.t 16)],some (14,true)⟩::⟨some 18,.pick (.t 14) (.t 17) (.c (.bool false)),none⟩::⟨some 10,.mv (.t 18),none⟩::[])) (.cond (.t 10) (.seq (.draw (⟨some 19,.fa 1 (.t 1),none⟩::⟨some 20,.fa 0 (.t 19),none⟩::⟨some 21,.ld 1 false (.t 20),none⟩::⟨some 22,.fa 1 (.t 1),none⟩::⟨some 23,.fa 1 (.t 22),none⟩::⟨some 24,.ld 1 false (.t 23),none⟩::⟨some 25,.call (.c (.fn 37 [])) [(.t 24)],none⟩::[]) (⟨some 26,.bld [.int .i64 0,.nils] [(0,1,(.t 21)),(1,1,(.t 25))],none⟩::⟨none,.st 2 (.t 2) (.t 26),none⟩::[])) .ret) .skip))))) (.seq (.reg (⟨some 27,.bld [.int .i64 0,.nils] [],none⟩::⟨none,.st 2 (.t 2) (.t 27),none⟩::[])) .ret)))
theorem cd_policy_Vec : Code1 Tryz.prog 28 28 ir_policy_Vec [.c 2 true 2]:=⟨Tryz.call28,_,_,Tryz.func28,rfl,by kernel_rfl,by kernel_rfl,by kernel_rfl,by kernel_rfl⟩
theorem fs_pVec (s n : Int) {W : List (Int × Int)} (hV : OkV n W) (hl : W.length <= 1000000) : FS Tryz.prog 28 [HV s n W] (VC n W):=by
  refine fs_of_cvc mixed cd_policy_Vec (by simp) ?_
  have c1:=fs_vRight n W (by omega)
  rw [hV.isV] at c1
  have c2:=fv_Back hV
  unfold dV at c2
  have c4:=fo_vClone W (by omega)
  have hil:=its_len W
  unfold HV
  by_cases hs : s = 2
  . rw [if_pos hs]
    repeat' (conv=>whnf); first |(refine Or.inl ⟨by rfl,_,c2,?_⟩) |(refine And.intro (show _ <= _ from Nat.le_of_ble_eq_true rfl) ?_) | refine Br.tt ?_ | refine And.intro rfl ?_ | fail
    all_goals exact rfl
  . rw [if_neg hs]
    repeat' (conv=>whnf); first |(refine Or.inl ⟨by rfl,_,c1,?_⟩) |(refine Or.inr (Or.inl ⟨by rfl,_,_,c4,?_⟩)) |(refine And.intro (show _ <= _ from Nat.le_of_ble_eq_true rfl) ?_) | refine Br.tt ?_ | refine Br.ff ?_ | refine And.intro rfl ?_ |(refine And.intro (by omega) ?_) | fail
    conv=>whnf
    rw [frz_len rfl]
    rfl
def ir_policy_Dense : IR :=
(.seq (.reg (⟨some 1,.bx (.t 0),none⟩::⟨some 2,.al [.int .i64 0,.nils,.nils],none⟩::[])) (.seq (.reg (⟨some 3,.ld 6 true (.t 1),none⟩::⟨some 4,.call (.c (.fn 28 [])) [(.t 3)],none⟩::⟨some 5,.call (.c (.fn 36 [])) [(.t 4)],none⟩::⟨none,.st 3 (.t 2) (.t 5),none⟩::[])) .ret))
theorem cd_policy_Dense : Code1 Tryz.prog 66 6 ir_policy_Dense [.c 3 true 2]:=⟨Tryz.call66,_,_,Tryz.func66,rfl,by kernel_rfl,by kernel_rfl,by kernel_rfl,by kernel_rfl⟩
theorem fs_pDense (s n : Int) {W : List (Int × Int)} (hV : OkV n W) (hl : W.length <= 1000000) : FS Tryz.prog 66 [HV s n W] (DV n (toF n W) (toL n W)):=by
  refine fs_of_cvc mixed cd_policy_Dense (by simp) ?_
  have c1:=fs_pVec s n hV hl
  have c2:=fs_dOf n W (by omega)
  rw [hV.sn,hV.sl] at c2
  unfold dV at c2
  unfold HV at *
  by_cases hs : s = 2
  . rw [if_pos hs] at *
    repeat' (conv=>whnf); first |(refine Or.inl ⟨by rfl,_,c1,?_⟩) |(refine Or.inl ⟨by rfl,_,c2,?_⟩) |(refine And.intro (show _ <= _ from Nat.le_of_ble_eq_true rfl) ?_) | refine And.intro rfl ?_ | fail
    all_goals exact rfl
  . rw [if_neg hs] at *
    repeat' (conv=>whnf); first |(refine Or.inl ⟨by rfl,_,c1,?_⟩) |(refine Or.inl ⟨by rfl,_,c2,?_⟩) |(refine And.intro (show _ <= _ from Nat.le_of_ble_eq_true rfl) ?_) | refine And.intro rfl ?_ | fail
    all_goals exact rfl
end
end Go.Proofs.YtelbhbadkbcakaaGreat
