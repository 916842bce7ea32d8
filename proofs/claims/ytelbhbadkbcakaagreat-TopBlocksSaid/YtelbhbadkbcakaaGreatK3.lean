/- A matrix by its columns: dcsc.Of. Pushed or pulled: the same sums (plain). The document's fill; a task's matrix, triple by triple. -/
import Derived.Test.YtelbhbadkbcakaaGreatK2
import Derived.Test.YtelbhbadkbcakaaGreatE6
namespace Go.Proofs.YtelbhbadkbcakaaGreat
section
open Go.RowKit
attribute [local irreducible] FS FO IT HS
def ir_dcsc_Of : IR :=
(.seq (.reg (⟨some 1,.bx (.t 0),none⟩::⟨some 2,.al [.int .i64 0,.int .i64 0,.nils,.nils,.nils,.nils],none⟩::[])) (.seq (.reg (⟨some 7,.call (.c (.fn 32 [])) [],none⟩::⟨some 3,.al [.int .i64 0,.int .i64 0,.nils,.nils,.nils,.nils],none⟩::⟨none,.st 6 (.t 3) (.t 7),none⟩::[])) (.seq (.seq (.reg (⟨some 8,.ld 5 true (.t 1),none⟩::⟨some 9,.call (.c (.fn 19 [])) [(.t 8)],none⟩::⟨some 10,.un .not (.t 9),none⟩::[])) (.cond (.t 10) (.seq (.reg (⟨some 11,.ld 6 true (.t 3),none⟩::⟨none,.st 6 (.t 2) (.t 11),none⟩::[])) .ret) .skip)) (.seq (.drawL (⟨some 12,.fa 0 (.t 1),none⟩::⟨some 13,.ld 1 false (.t 12),none⟩::⟨some 14,.fa 1 (.t 1),none⟩::⟨some 15,.ld 1 false (.t 14),none⟩::[]) (⟨some 14,.fa 1 (.t 1),none⟩::⟨some 15,.ld 1 false (.t 14),none⟩::[]) (⟨some 16,.fa 0 (.t 3),none⟩::⟨none,.st 1 (.t 16) (.t 13),none⟩::[]) (⟨some 17,.fa 1 (.t 3),none⟩::⟨none,.st 1 (.t 17) (.t 15),none⟩::[])) (.seq (.seq (.reg (⟨some 18,.ld 5 true (.t 1),none⟩::⟨some 19,.call (.c (.fn 34 [])) [(.t 18)],none⟩::⟨some 20,.call (.c (.fn 33 [])) [(.t 19)],none⟩::⟨some 21,.ln (.t 20),none⟩::⟨some 22,.mv (.c (.int .i64 0)),none⟩::[])) (.block 0 (.loop (.seq (.reg (⟨some 23,.bin .lss (.t 22) (.t 21),none⟩::[])) (.seq (.cond (.t 23) .skip (.exit 0)) (.seq (.block 1 (.seq (.reg (⟨some 24,.ia 3 (.t 20) (.t 22),none⟩::⟨some 25,.ld 3 true (.t 24),none⟩::⟨some 5,.al [.int .i64 0,.int .i64 0,.int .i64 0],none⟩::⟨none,.st 3 (.t 5) (.t 25),none⟩::[])) (.seq (.seq (.reg (⟨some 26,.fa 2 (.t 3),none⟩::⟨some 27,.ld 1 false (.t 26),none⟩::⟨some 28,.ln (.t 27),none⟩::⟨some 6,.mv (.t 28),none⟩::[])) (.seq (.draw (⟨some 29,.mv (.t 6),none⟩::⟨some 30,.bin .eql (.t 29) (.c (.int .i64 0)),none⟩::⟨some 31,.mv (.t 30),none⟩::⟨some 32,.fa 2 (.t 3),some (31,false)⟩::⟨some 33,.ld 1 false (.t 32),some (31,false)⟩::⟨some 34,.mv (.t 6),some (31,false)⟩::⟨some 35,.bin .sub (.t 34) (.c (.int .i64 1)),some (31,false)⟩::⟨some 36,.ia 1 (.t 33) (.t 35),some (31,false)⟩::⟨some 37,.ld 1 false (.t 36),some (31,false)⟩::⟨some 38,.fa 0 (.t 5),some (31,false)⟩::⟨some 39,.ld 1 false (.t 38),some (31,false)⟩::[]) (⟨some 40,.bin .neq (.t 37) (.t 39),some (31,false)⟩::⟨some 41,.pick (.t 31) (.c (.bool true)) (.t 40),none⟩::[])) (.cond (.t 41) (.seq (.reg (⟨some 42,.fa 2 (.t 3),none⟩::⟨some 43,.ld 1 false (.t 42),none⟩::⟨some 44,.fa 0 (.t 5),none⟩::⟨some 45,.ld 1 false (.t 44),none⟩::⟨some 46,.bsl 1 1 [.int .i64 0] [(0,(.t 45))],none⟩::⟨some 47,.ap 1 8 (.t 43) (.t 46),none⟩::⟨some 48,.fa 2 (.t 3),none⟩::⟨none,.st 1 (.t 48) (.t 47),none⟩::[])) (.reg (⟨some 49,.fa 3 (.t 3),none⟩::⟨some 50,.ld 1 false (.t 49),none⟩::⟨some 51,.bsl 1 1 [.int .i64 0] [(0,(.c (.int .i64 0)))],none⟩::⟨some 52,.ap 1 8 (.t 50) (.t 51),none⟩::⟨some 53,.fa 3 (.t 3),none⟩::⟨none,.st 1 (.t 53) (.t 52),none⟩::[]))) .skip))) (.seq (.reg (⟨some 54,.fa 4 (.t 3),none⟩::⟨some 55,.ld 1 false (.t 54),none⟩::⟨some 56,.fa 1 (.t 5),none⟩::⟨some 57,.ld 1 false (.t 56),none⟩::⟨some 58,.bsl 1 1 [.int .i64 0] [(0,(.t 57))],none⟩::⟨some 59,.ap 1 8 (.t 55) (.t 58),none⟩::⟨some 60,.fa 4 (.t 3),none⟩::⟨none,.st 1 (.t 60) (.t 59),none⟩::[])) (.seq (.reg (⟨some 61,.fa 5 (.t 3),none⟩::⟨some 62,.ld 1 false (.t 61),none⟩::⟨some 63,.fa 2 (.t 5),none⟩::⟨some 64,.ld 1 false (.t 63),none⟩::⟨some 65,.bsl 1 1 [.int .i64 0] [(0,(.t 64))],none⟩::⟨some 66,.ap 1 8 (.t 62) (.t 65),none⟩::⟨some 67,.fa 5 (.t 3),none⟩::⟨none,.st 1 (.t 67) (.t 66),none⟩::[])) (.reg (⟨some 68,.fa 3 (.t 3),none⟩::⟨some 69,.ld 1 false (.t 68),none⟩::⟨some 70,.fa 2 (.t 3),none⟩::⟨some 71,.ld 1 false (.t 70),none⟩::⟨some 72,.ln (.t 71),none⟩::⟨some 73,.fa 4 (.t 3),none⟩::⟨some 74,.ld 1 false (.t 73),none⟩::⟨some 75,.ln (.t 74),none⟩::⟨some 76,.ia 1 (.t 69) (.t 72),none⟩::⟨none,.st 1 (.t 76) (.t 75),none⟩::[]))))))) (.reg (⟨some 77,.bin .add (.t 22) (.c (.int .i64 1)),none⟩::⟨some 22,.mv (.t 77),none⟩::[])))))))) (.seq (.reg (⟨some 78,.ld 6 true (.t 3),none⟩::⟨none,.st 6 (.t 2) (.t 78),none⟩::[])) .ret))))))
theorem cd_dcsc_Of : Code1 Tryz.prog 10 79 ir_dcsc_Of [.c 6 true 2]:=⟨Tryz.call10,_,_,Tryz.func10,rfl,by kernel_rfl,by kernel_rfl,by kernel_rfl,by kernel_rfl⟩
set_option maxHeartbeats 4000000 in
theorem fs_dcOf {rows cols : Int} {L : List Tri} (hT : OkT rows cols L) : FS Tryz.prog 10 [MTr rows cols L] (DX rows cols (jcN (turnT L) (turnT L).length).1 (jcN (turnT L) (turnT L).length).2 ((turnT L).map fun x=>x.2.1) ((turnT L).map fun x=>x.2.2)):=by
  refine fs_of_cvc mixed cd_dcsc_Of (by simp) ?_
  have c1:=fo_dnone
  have c2:=fs_mRight rows cols (stB rows L) (L.map fun x=>x.2.1) (L.map fun x=>x.2.2)
  rw [hT.ok.right] at c2
  have c2' : FS Tryz.prog 19 [MTr rows cols L] (.bool true):=c2
  have c3:=fs_Turn hT
  have hT':=hT.turn
  have c4:=fs_Triples hT'
  have hr:=hT'.rise
  have h0 : ∀ y ∈ turnT L,0 <= y.1:=fun y hy=>(hT'.inr y hy).1
  have hSl : (turnT L).length <= 65536:=hT'.len
  generalize turnT L = S at *
  have hel:=eds_len S
  repeat' (conv=>whnf); first |(refine Or.inr (Or.inl ⟨by rfl,_,_,c1,?_⟩)) |(refine Or.inl ⟨by rfl,_,c2',?_⟩) |(refine Or.inl ⟨by rfl,_,c3,?_⟩) |(refine Or.inl ⟨by rfl,_,c4,?_⟩) |((refine ex_but 3 ?_; refine And.intro ?_ ?_; focus ((repeat' (first | exact trivial | exact rfl | (refine And.intro ?_ ?_) | omega | exact Nat.le_of_ble_eq_true rfl | ((conv=>whnf); first | exact trivial | exact rfl | (refine And.intro ?_ ?_)))); done))) |((refine And.intro ?_ ?_; focus ((repeat' (first | exact trivial | exact rfl | (refine And.intro ?_ ?_) | omega | exact Nat.le_of_ble_eq_true rfl | ((conv=>whnf); first | exact trivial | exact rfl | (refine And.intro ?_ ?_)))); done))) | refine Br.ff ?_ | fail
  refine ⟨Nat,fun k=>k <= S.length,fun k=>[(2,.ptr 1 0 0 0),(3,.ptr 3 0 0 0),(20,EL S),(21,.int .i64 (S.length : Int)),(22,.int .i64 (k : Int))],fun k=>[.vars [.int .i64 rows,.int .i64 cols,Z (stB rows L),Z (L.map fun x=>x.2.1),Z (L.map fun x=>x.2.2)],.vars [.int .i64 0,.int .i64 0,.nils,.nils,.nils,.nils],.arr 1 (zs (jcN S k).2),.vars [.int .i64 rows,.int .i64 cols,.osl 4 1 0 (jcN S k).1.length,.osl 2 1 0 ((jcN S k).1.length + 1),.osl 5 1 0 k,.osl 6 1 0 k],.arr 1 (zs (jcN S k).1),.arr 1 (zs ((S.take k).map fun x=>x.2.1)),.arr 1 (zs ((S.take k).map fun x=>x.2.2))],fun _=>none,fun k=>S.length - k,
    ⟨0,Nat.zero_le _,⟨rfl,rfl,rfl,?_,rfl,trivial⟩,⟨⟨rfl,rfl,rfl,rfl,rfl,trivial⟩,⟨rfl,rfl,rfl,rfl,rfl,rfl,trivial⟩,rfl,⟨rfl,rfl,⟨Nat.le_of_ble_eq_true rfl,rfl,rfl⟩,rfl,⟨Nat.le_of_ble_eq_true rfl,rfl,rfl⟩,⟨Nat.le_of_ble_eq_true rfl,rfl,rfl⟩,trivial⟩,rfl,rfl,rfl,trivial⟩,rfl⟩,fun k hk=>?_⟩
  . show SV.int .i64 _ = SV.int .i64 _
    rw [hel]
  have hk : k <= S.length:=hk
  have hlen:=jcN_lens hr h0 k hk
  have hle:=jcN_le S k
  have hz1 : (zs ((S.take k).map fun x=>x.2.1)).length = k:=by rw [zs_len,List.length_map,List.length_take]; omega
  have hz2 : (zs ((S.take k).map fun x=>x.2.2)).length = k:=by rw [zs_len,List.length_map,List.length_take]; omega
  by_cases hkn : k < S.length
  . obtain ⟨x,hx⟩ : ∃ x,S.getD k (0,0,0) = x:=⟨_,rfl⟩
    have hxk : S[k]? = some x:=by rw [<- hx]; exact eds_some hkn
    have hm1:=map_more (fun x=>x.2.1) hxk
    have hm2:=map_more (fun x=>x.2.2) hxk
    have hst : jcN S (k + 1) = jcS (jcN S k) k x:=by rw [<- hx]; rfl
    have hq1:=zs_len (jcN S k).1
    have hq2:=zs_len (jcN S k).2
    have happ : ∀ j,j = (jcN S k).1.length + 1 -> (zs (jcN S k).2 ++ [[SV.int .i64 0]])[j]? = some [SV.int .i64 0]:=fun j hj=>by
      rw [List.getElem?_append_right (by omega),show j - (zs (jcN S k).2).length = 0 by omega]; rfl
    by_cases hj : (jcN S k).1.length = 0
    . repeat' (conv=>whnf); first |(refine eds_is' (i:=k) (by omega) hx ?_) |(refine ⟨_,happ _ (show 0 + (((jcN S k).1.length + 1 : Nat) : Int).toNat = (jcN S k).1.length + 1 by omega),?_⟩) |(refine And.intro (show _ <= _ from Nat.le_of_ble_eq_true rfl) ?_) |((refine And.intro (fun y hy=>by rcases List.mem_singleton.1 hy with rfl; rfl) ?_)) | refine Br.tt ?_ |(refine Br.dec (fun h=>?_) (fun h=>?_)) <;> try (exfalso; omega) | refine And.intro rfl ?_ |(refine And.intro (by omega) ?_) |(refine ⟨_,Or.inl ⟨⟨by omega,by omega⟩,rfl⟩,?_⟩) |(refine And.intro (by simp only [lens_all]; first | done | omega) ?_) | fail
      have e0 : jcN S (k + 1) = ((jcN S k).1 ++ [x.1],((jcN S k).2 ++ [0]).set ((jcN S k).1.length + 1) ((k : Int) + 1)):=by rw [hst,jcS,if_neg (fun h=>h.1 hj)]
      have e1:=congrArg Prod.fst e0
      have e2:=congrArg Prod.snd e0
      simp only at e1 e2
      refine ⟨k + 1,(show k + 1 <= S.length by omega),(show S.length - (k + 1) < S.length - k by omega),⟨rfl,rfl,rfl,rfl,rfl,trivial⟩,⟨⟨rfl,rfl,rfl,rfl,rfl,trivial⟩,⟨rfl,rfl,rfl,rfl,rfl,rfl,trivial⟩,?_,⟨rfl,rfl,?_,?_,rfl,rfl,trivial⟩,?_,?_,?_,Nat.le_of_ble_eq_true rfl,rfl,rfl⟩,rfl⟩
      . refine congrArg (Blk.arr 1) ?_
        rw [e2,<- zs_set,zs_append]
        refine congrArg (fun i=>List.set _ i _) ?_
        show 0 + (((jcN S k).1.length + 1 : Nat) : Int).toNat = _
        omega
      . refine congrArg (SV.osl 4 1 0) ?_
        rw [e1]; simp
      . refine congrArg (SV.osl 2 1 0) ?_
        rw [e1]; simp
      . refine congrArg (Blk.arr 1) ?_
        rw [e1,zs_append]; rfl
      . refine congrArg (Blk.arr 1) ?_
        rw [hm1,zs_append]; rfl
      . refine congrArg (Blk.arr 1) ?_
        rw [hm2,zs_append]; rfl
    . obtain ⟨z,hz⟩ : ∃ z,(jcN S k).1.getD ((jcN S k).1.length - 1) 0 = z:=⟨_,rfl⟩
      by_cases hzx : z = x.1
      . repeat' (conv=>whnf); first |(refine eds_is' (i:=k) (by omega) hx ?_) |(refine ⟨_,zs_val (i:=(jcN S k).1.length - 1) (by omega) hz (by omega),?_⟩) |(refine ⟨_,zs_val (i:=(jcN S k).1.length) (by omega) rfl (by omega),?_⟩) |(refine And.intro (show _ <= _ from Nat.le_of_ble_eq_true rfl) ?_) |((refine And.intro (fun y hy=>by rcases List.mem_singleton.1 hy with rfl; rfl) ?_)) | refine Br.ff ?_ |(refine Br.dec (fun h=>?_) (fun h=>?_)) <;> try (exfalso; omega) | refine And.intro rfl ?_ |(refine And.intro (by omega) ?_) |(refine ⟨_,Or.inl ⟨⟨by omega,by omega⟩,rfl⟩,?_⟩) |(refine And.intro (by simp only [lens_all]; first | done | omega) ?_) | fail
        have e0 : jcN S (k + 1) = ((jcN S k).1,(jcN S k).2.set (jcN S k).1.length ((k : Int) + 1)):=by rw [hst,jcS,if_pos ⟨hj,hz.trans hzx⟩]
        have e1:=congrArg Prod.fst e0
        have e2:=congrArg Prod.snd e0
        simp only at e1 e2
        refine ⟨k + 1,(show k + 1 <= S.length by omega),(show S.length - (k + 1) < S.length - k by omega),⟨rfl,rfl,rfl,rfl,rfl,trivial⟩,⟨⟨rfl,rfl,rfl,rfl,rfl,trivial⟩,⟨rfl,rfl,rfl,rfl,rfl,rfl,trivial⟩,?_,⟨rfl,rfl,?_,?_,rfl,rfl,trivial⟩,?_,?_,?_,Nat.le_of_ble_eq_true rfl,rfl,rfl⟩,rfl⟩
        . refine congrArg (Blk.arr 1) ?_
          rw [e2,<- zs_set]
          refine congrArg (fun i=>List.set _ i _) ?_
          show 0 + ((jcN S k).1.length : Int).toNat = _
          omega
        . refine congrArg (SV.osl 4 1 0) ?_
          rw [e1]
        . refine congrArg (SV.osl 2 1 0) ?_
          rw [e1]
        . refine congrArg (Blk.arr 1) ?_
          rw [e1]
        . refine congrArg (Blk.arr 1) ?_
          rw [hm1,zs_append]; rfl
        . refine congrArg (Blk.arr 1) ?_
          rw [hm2,zs_append]; rfl
      . repeat' (conv=>whnf); first |(refine eds_is' (i:=k) (by omega) hx ?_) |(refine ⟨_,zs_val (i:=(jcN S k).1.length - 1) (by omega) hz (by omega),?_⟩) |(refine ⟨_,happ _ (show 0 + (((jcN S k).1.length + 1 : Nat) : Int).toNat = (jcN S k).1.length + 1 by omega),?_⟩) |(refine And.intro (show _ <= _ from Nat.le_of_ble_eq_true rfl) ?_) |((refine And.intro (fun y hy=>by rcases List.mem_singleton.1 hy with rfl; rfl) ?_)) | refine Br.ff ?_ |(refine Br.dec (fun h=>?_) (fun h=>?_)) <;> try (exfalso; omega) | refine And.intro rfl ?_ |(refine And.intro (by omega) ?_) |(refine ⟨_,Or.inl ⟨⟨by omega,by omega⟩,rfl⟩,?_⟩) |(refine And.intro (by simp only [lens_all]; first | done | omega) ?_) | fail
        have e0 : jcN S (k + 1) = ((jcN S k).1 ++ [x.1],((jcN S k).2 ++ [0]).set ((jcN S k).1.length + 1) ((k : Int) + 1)):=by rw [hst,jcS,if_neg (fun h=>hzx (hz.symm.trans h.2))]
        have e1:=congrArg Prod.fst e0
        have e2:=congrArg Prod.snd e0
        simp only at e1 e2
        refine ⟨k + 1,(show k + 1 <= S.length by omega),(show S.length - (k + 1) < S.length - k by omega),⟨rfl,rfl,rfl,rfl,rfl,trivial⟩,⟨⟨rfl,rfl,rfl,rfl,rfl,trivial⟩,⟨rfl,rfl,rfl,rfl,rfl,rfl,trivial⟩,?_,⟨rfl,rfl,?_,?_,rfl,rfl,trivial⟩,?_,?_,?_,Nat.le_of_ble_eq_true rfl,rfl,rfl⟩,rfl⟩
        . refine congrArg (Blk.arr 1) ?_
          rw [e2,<- zs_set,zs_append]
          refine congrArg (fun i=>List.set _ i _) ?_
          show 0 + (((jcN S k).1.length + 1 : Nat) : Int).toNat = _
          omega
        . refine congrArg (SV.osl 4 1 0) ?_
          rw [e1]; simp
        . refine congrArg (SV.osl 2 1 0) ?_
          rw [e1]; simp
        . refine congrArg (Blk.arr 1) ?_
          rw [e1,zs_append]; rfl
        . refine congrArg (Blk.arr 1) ?_
          rw [hm1,zs_append]; rfl
        . refine congrArg (Blk.arr 1) ?_
          rw [hm2,zs_append]; rfl
  . obtain rfl : k = S.length:=by omega
    have e1 : S.take S.length = S:=List.take_length
    repeat' (conv=>whnf); first |(refine And.intro (show _ <= _ from Nat.le_of_ble_eq_true rfl) ?_) |(refine Br.dec (fun h=>?_) (fun h=>?_)) <;> try (exfalso; omega) | refine And.intro rfl ?_ |(refine And.intro (by omega) ?_) |(refine And.intro (by simp only [zs_len]; first | done | omega) ?_) | fail
    conv=>whnf
    rw [frz_zl rfl,frz_zl hlen.symm,e1,frz_zl (by simp),frz_zl (by simp)]
    exact rfl
end
section
open Go.RowKit
attribute [local irreducible] FS FO IT HS
theorem join_swap (r : Int) : ∀ (n : Nat) (A W : List (Int × Int)),A.length + W.length <= n -> Up A -> Up W -> ∀ o,W.foldl (fun o s=>accG r o ((gt A s.1).map fun a=>rMul r a s.2)) o = A.foldl (rowF r (gt W)) o
  | 0, A, W, hn, _, _, o => by
    obtain rfl : A = []:=List.eq_nil_of_length_eq_zero (by omega)
    obtain rfl : W = []:=List.eq_nil_of_length_eq_zero (by omega)
    rfl
  | n + 1, [], W, _, _, _, o => by
    have : ∀ (l : List (Int × Int)) (o : Option Int),l.foldl (fun (o : Option Int) _=>o) o = o:=fun l=>by
      induction l with
      | nil=>intro o; rfl
      | cons y l ih=>intro o; exact ih o
    exact this W o
  | n + 1, x :: A, [], _, _, _, o => by
    have : ∀ (l : List (Int × Int)) (o : Option Int),l.foldl (rowF r (gt [])) o = o:=fun l=>by
      induction l with
      | nil=>intro o; rfl
      | cons y l ih=>intro o; exact ih o
    exact (this _ _).symm
  | n + 1, x :: A, s :: W, hn, hA, hW, o => by
    have hxA:=hA.head
    have hsW:=hW.head
    simp only [List.length_cons] at hn
    rcases Int.lt_trichotomy x.1 s.1 with h | h | h
    . have ih:=join_swap r n A (s::W) (by simp; omega) hA.tail hW o
      have e1 : gt (s::W) x.1 = none:=gt_none fun y hy=>by
        rcases List.mem_cons.1 hy with rfl | hy
        . omega
        . have:=hsW y hy; omega
      have e2 : rowF r (gt (s::W)) o x = o:=by unfold rowF; rw [e1]
      rw [List.foldl_cons (l:=A),e2,<- ih]
      refine foldl_same _ fun o y hy=>?_
      have hy' : x.1 ≠ y.1:=by
        rcases List.mem_cons.1 hy with rfl | hy
        . omega
        . have:=hsW y hy; omega
      rw [gt_cons,if_neg hy']
    . have ih:=join_swap r n A W (by omega) hA.tail hW.tail (accS r o (rMul r x.2 s.2))
      have e1 : gt (s::W) x.1 = some s.2:=by rw [gt_cons,if_pos h.symm]
      have e2 : rowF r (gt (s::W)) o x = accS r o (rMul r x.2 s.2):=by unfold rowF; rw [e1]
      have e3 : gt (x::A) s.1 = some x.2:=by rw [gt_cons,if_pos h]
      rw [List.foldl_cons (l:=A),List.foldl_cons (l:=W),e2,e3]
      have e4 : A.foldl (rowF r (gt (s::W))) (accS r o (rMul r x.2 s.2)) = A.foldl (rowF r (gt W)) (accS r o (rMul r x.2 s.2)):=foldl_same _ fun o y hy=>by
        have:=hxA y hy
        unfold rowF
        rw [gt_cons,if_neg (by omega)]
      rw [e4,<- ih]
      refine foldl_same _ fun o y hy=>?_
      have:=hsW y hy
      rw [gt_cons,if_neg (by omega)]
    . have ih:=join_swap r n (x::A) W (by simp; omega) hA hW.tail o
      have e1 : gt (x::A) s.1 = none:=gt_none fun y hy=>by
        rcases List.mem_cons.1 hy with rfl | hy
        . omega
        . have:=hxA y hy; omega
      rw [List.foldl_cons (l:=W),e1]
      show W.foldl _ o = _
      rw [ih]
      refine foldl_same _ fun o y hy=>?_
      have hy' : s.1 ≠ y.1:=by
        rcases List.mem_cons.1 hy with rfl | hy
        . omega
        . have:=hxA y hy; omega
      unfold rowF
      rw [gt_cons,if_neg hy']
where foldl_same {f g : Option Int -> Int × Int -> Option Int} : ∀ (l : List (Int × Int)) {o : Option Int},(∀ o,∀ y ∈ l,f o y = g o y) -> l.foldl f o = l.foldl g o
  | [],_,_=>rfl
  | y :: l, o, h => by
    rw [List.foldl_cons,List.foldl_cons,h o y (by simp)]
    exact foldl_same l fun o z hz=>h o z (List.mem_cons_of_mem _ hz)
theorem range_fold {α : Type} (F : Option Int -> α -> Option Int) (d : α) (l : List α) (o : Option Int) : (List.range l.length).foldl (fun o j=>F o (l.getD j d)) o = l.foldl F o:=by
  have e : l = (List.range l.length).map fun j=>l.getD j d:=by
    apply List.ext_getElem?
    intro i
    rw [List.getElem?_map]
    by_cases h : i < l.length
    . rw [List.getElem?_range h,List.getElem?_eq_getElem h]; simp [h]
    . rw [List.getElem?_eq_none (by omega),List.getElem?_eq_none (by simp; omega)]; rfl
  conv=>rhs; rw [e]
  rw [List.foldl_map]
theorem colF_one {r v : Int} {g : List Nat} {o : Bool} {x y : Int × Int} (h : colF r v g o x = some y) : y.1 = x.1:=by
  unfold colF at h
  split at h
  . cases h; rfl
  . cases h
theorem gt_colR {r v : Int} {g : List Nat} {o : Bool} {l : List (Int × Int)} (hl : Up l) (k : Int) : gt (colR r v g o l) k = if (hasI g k != o) = true then (gt l k).map fun a=>rMul r a v else none:=by
  unfold colR
  rw [gt_fm (fun x y h=>colF_one h) hl]
  cases gt l k with
  | none=>simp
  | some a =>
    simp only [Option.bind_some,colF,Option.map_some]
    split <;> rfl
theorem colR_mem {r v : Int} {g : List Nat} {o : Bool} {l : List (Int × Int)} {y : Int × Int} (h : y ∈ colR r v g o l) : ∃ x ∈ l,y = (x.1,rMul r x.2 v):=by
  obtain ⟨x,hx,he⟩:=List.mem_filterMap.1 h
  unfold colF at he
  split at he
  . cases he; exact ⟨x,hx,rfl⟩
  . cases he
theorem colR_up {r v : Int} {g : List Nat} {o : Bool} {l : List (Int × Int)} (hl : Up l) : Up (colR r v g o l):=by
  unfold Up colR
  rw [List.pairwise_filterMap]
  refine List.Pairwise.imp (fun {a b} h x hx y hy=>?_) hl
  have h1:=colF_one hx
  have h2:=colF_one hy
  have h' : a.1 < b.1:=h
  omega
theorem up_risC {l : List (Int × Int)} (h : Up l) : RisC l:=fun i h0 hi=>by
  have:=List.pairwise_iff_getElem.1 h (i - 1) i (by omega) hi (by omega)
  simpa [hi,show i - 1 < l.length by omega] using this
theorem tw_in {c : List (List (Int × Int))} {M : Nat} (h : ∀ l ∈ c,l.length <= M) : ∀ k,k <= c.length -> twH (inL c k) <= k * M
  | 0,_=>by rw [inL]; exact Nat.zero_le _
  | k + 1, hk => by
    have ih:=tw_in h k (by omega)
    have hm : (c.getD k []).length <= M:=by
      refine h _ ?_
      rw [List.getD_eq_getElem?_getD,List.getElem?_eq_getElem (by omega)]
      exact List.getElem_mem _
    rw [inL,tw_pt,Nat.add_mul]
    show (c.getD k []).length + twH (inL c k) <= _
    omega
/-! ### Triples by rows,and by columns -/
theorem colT_up {L : List Tri} (hr : Rise L) (h0 : ∀ y ∈ L,0 <= y.1) (a : Int) : Up (colT L a):=by
  unfold Up colT
  rw [List.pairwise_map]
  exact pt_up hr h0 _
theorem colT_in {L : List Tri} (hr : Rise L) (h0 : ∀ y ∈ L,0 <= y.1) {a : Int} (ha : 0 <= a) {c v : Int} : (c,v) ∈ colT L a ↔ (a,c,v) ∈ L:=by
  unfold colT
  rw [List.mem_map]
  have hpl:=pt_length L a.toNat
  constructor
  . rintro ⟨x,hx,e⟩
    obtain ⟨k,hk,hxk⟩:=List.getElem_of_mem hx
    have hk' : k < cntB L (a.toNat + 1) - cntB L a.toNat:=by omega
    have e2 : (ptL L a.toNat)[k]? = some x:=by rw [List.getElem?_eq_getElem hk,hxk]
    rw [pt_at hk'] at e2
    have hm:=List.mem_of_getElem? e2
    have:=pt_row hr (h0 _ hm) hk' e2
    obtain ⟨x1,x2,x3⟩:=x
    cases e
    simp only at this
    rw [show a = x1 by omega]; exact hm
  . intro h
    obtain ⟨k,hk,e⟩:=List.getElem_of_mem h
    have e2 : L[k]? = some (a,c,v):=by rw [List.getElem?_eq_getElem hk,e]
    have r1:=(rise_cnt hr (a.toNat + 1) k _ e2).1 (show a < _ by omega)
    have r2 : ¬ k < cntB L a.toNat:=fun h=>by have : a < _:=(rise_cnt hr a.toNat k _ e2).2 h; omega
    refine ⟨(a,c,v),List.mem_of_getElem? (i:=k - cntB L a.toNat) ?_,rfl⟩
    rw [pt_at (by omega),show cntB L a.toNat + (k - cntB L a.toNat) = k by omega]
    exact e2
theorem gt_iff {l : List (Int × Int)} (h : Up l) (k v : Int) : gt l k = some v ↔ (k,v) ∈ l:=⟨gt_mem,fun hm=>gt_some h hm⟩
theorem turn_in {L : List Tri} {a c v : Int} : (c,a,v) ∈ turnT L ↔ (a,c,v) ∈ L:=by
  rw [(turnT_perm L).mem_iff]
  unfold trn
  rw [List.mem_map]
  constructor
  . rintro ⟨⟨x1,x2,x3⟩,hx,e⟩
    cases e
    exact hx
  . intro h
    exact ⟨_,h,rfl⟩
theorem gt_turn {rows cols : Int} {L : List Tri} (hT : OkT rows cols L) {i c : Int} (hi : 0 <= i) (hc : 0 <= c) : gt (colT (turnT L) c) i = gt (colT L i) c:=by
  have hT':=hT.turn
  have u1:=colT_up hT.rise (fun y hy=>(hT.inr y hy).1) i
  have u2:=colT_up hT'.rise (fun y hy=>(hT'.inr y hy).1) c
  have h : ∀ v,gt (colT (turnT L) c) i = some v ↔ gt (colT L i) c = some v:=fun v=>by
    rw [gt_iff u1,gt_iff u2,colT_in hT.rise (fun y hy=>(hT.inr y hy).1) hi,colT_in hT'.rise (fun y hy=>(hT'.inr y hy).1) hc,turn_in]
  cases h1 : gt (colT L i) c with
  | none =>
    cases h2 : gt (colT (turnT L) c) i with
    | none=>rfl
    | some v=>have:=(h v).1 h2; rw [h1] at this; cases this
  | some v=>exact (h v).2 h1
theorem rowL_T {rows : Int} {L : List Tri} {i : Nat} (hi : (i : Int) < rows) : rowL (stB rows L) (L.map fun x=>x.2.1) (L.map fun x=>x.2.2) i = colT L (i : Int):=by
  have g1:=stB_get (rows:=rows) (L:=L) (i:=i) (by omega)
  have g2:=stB_get (rows:=rows) (L:=L) (i:=i + 1) (by omega)
  have hpl:=pt_length L i
  have hcl:=cntB_le L (i + 1)
  have hcm:=cntB_mono L (show i <= i + 1 by omega)
  apply List.ext_getElem?
  intro j
  unfold rowL colT
  rw [g1,g2,List.getElem?_map,List.getElem?_map,Int.toNat_natCast,Int.toNat_natCast]
  by_cases hj : j < cntB L (i + 1) - cntB L i
  . obtain ⟨x,hx⟩ : ∃ x,L[cntB L i + j]? = some x:=⟨_,List.getElem?_eq_getElem (by omega)⟩
    rw [List.getElem?_range (by omega),pt_at hj,hx]
    simp only [Option.map_some]
    rw [map_getD _ hx,map_getD _ hx]
  . have e1 : ((List.range ((cntB L (i + 1) : Int) - (cntB L i : Int)).toNat))[j]? = none:=List.getElem?_eq_none (by rw [List.length_range]; omega)
    have e2 : (ptL L i)[j]? = none:=List.getElem?_eq_none (by omega)
    rw [e1,e2]; rfl
/-! ### Pushed is pulled -/
theorem gt_mrg {r : Int} {g : List Nat} {o : Bool} {CC : Int -> List (Int × Int)} {W : List (Int × Int)} (hu : ∀ x ∈ W,Up (CC x.1)) : Up (mrg r (colsP r g o CC W)) /\ ∀ k,gt (mrg r (colsP r g o CC W)) k = if (hasI g k != o) = true then W.foldl (fun o s=>accG r o ((gt (CC s.1) k).map fun a=>rMul r a s.2)) none else none:=by
  have hup : ∀ l ∈ colsP r g o CC W,Up l:=fun l hl=>by
    unfold colsP at hl
    obtain ⟨s,hs,rfl⟩:=List.mem_map.1 hl
    exact colR_up (hu s hs)
  obtain ⟨m1,m2⟩:=mrg_is r hup
  refine ⟨m1,fun k=>?_⟩
  rw [m2]
  unfold colD
  rw [range_fold (fun o (l : List (Int × Int))=>accG r o (gt l k)) [] (colsP r g o CC W) none]
  unfold colsP
  rw [List.foldl_map]
  by_cases hk : (hasI g k != o) = true
  . rw [if_pos hk]
    refine join_swap.foldl_same W fun o' s hs=>?_
    rw [gt_colR (hu s hs),if_pos hk]
  . rw [if_neg hk]
    have : ∀ (l : List (Int × Int)),(∀ x ∈ l,Up (CC x.1)) -> l.foldl (fun o' s=>accG r o' (gt (colR r s.2 g o (CC s.1)) k)) none = none:=by
      intro l
      induction l with
      | nil=>intro _; rfl
      | cons s l ih =>
        intro h
        rw [List.foldl_cons,gt_colR (h s (by simp)),if_neg hk]
        exact ih fun x hx=>h x (List.mem_cons_of_mem _ hx)
    exact this W hu
theorem sums_ask {R : Nat -> Option Int} {n : Int} {g : List Nat} {o : Bool} : Up (sumsL R (askL n g o)) /\ ∀ k,gt (sumsL R (askL n g o)) k = if (hasI g k != o) = true then (if 0 <= k /\ k < n then R k.toNat else none) else none:=by
  have e : sumsL R (askL n g o) = (tabL (fun k=>R k.toNat) n.toNat).filter fun x=>hasI g x.1 != o:=by
    unfold askL
    rw [sumsL_filt fun c=>hasI g c != o,sumsL_tab]
  rw [e]
  have ut:=up_tabL (fun k=>R k.toNat) n.toNat
  refine ⟨List.Pairwise.filter _ ut,fun k=>?_⟩
  rw [gt_filt ut,gt_tabL]
  by_cases hk : 0 <= k /\ k < n
  . rw [if_pos (by omega),if_pos hk]
    cases R k.toNat <;> simp
  . rw [if_neg (by omega),if_neg hk]
    simp
theorem push_pull {r rows cols : Int} {L : List Tri} (hT : OkT rows cols L) {W : List (Int × Int)} (hW : OkV cols W) (g : List Nat) (o : Bool) :
    mrg r (colsP r g o (colT (turnT L)) W) = sumsL (fun i=>rowO r (gt W) (rowL (stB rows L) (L.map fun x=>x.2.1) (L.map fun x=>x.2.2) i)) (askL rows g o):=by
  have hT':=hT.turn
  have hup : ∀ a,Up (colT (turnT L) a):=fun a=>colT_up hT'.rise (fun y hy=>(hT'.inr y hy).1) a
  obtain ⟨m1,m2⟩:=gt_mrg (r:=r) (g:=g) (o:=o) (CC:=colT (turnT L)) (W:=W) fun x _=>hup x.1
  obtain ⟨s1,s2⟩:=sums_ask (R:=fun i=>rowO r (gt W) (rowL (stB rows L) (L.map fun x=>x.2.1) (L.map fun x=>x.2.2) i)) (n:=rows) (g:=g) (o:=o)
  refine up_ext m1 s1 fun k=>?_
  rw [m2,s2]
  by_cases hk : (hasI g k != o) = true
  . rw [if_pos hk,if_pos hk]
    by_cases hkr : 0 <= k /\ k < rows
    . rw [if_pos hkr,rowL_T (by omega),Int.toNat_of_nonneg hkr.1]
      unfold rowO
      rw [<- join_swap r _ (colT L k) W (Nat.le_refl _) (colT_up hT.rise (fun y hy=>(hT.inr y hy).1) k) hW.up none]
      refine join_swap.foldl_same W fun o' s hs=>?_
      rw [gt_turn hT hkr.1 (hW.lo s hs).1]
    . rw [if_neg hkr]
      have hno : ∀ s ∈ W,gt (colT (turnT L) s.1) k = none:=fun s hs=>gt_none fun x hx e=>by
        obtain ⟨x1,x2⟩:=x
        have hm:=(colT_in hT'.rise (fun y hy=>(hT'.inr y hy).1) (hW.lo s hs).1).1 hx
        have:=hT'.inr _ hm
        simp only at this e
        omega
      have : ∀ (l : List (Int × Int)),(∀ s ∈ l,gt (colT (turnT L) s.1) k = none) -> l.foldl (fun o' s=>accG r o' ((gt (colT (turnT L) s.1) k).map fun a=>rMul r a s.2)) none = none:=by
        intro l
        induction l with
        | nil=>intro _; rfl
        | cons s l ih =>
          intro h
          rw [List.foldl_cons,h s (by simp)]
          exact ih fun x hx=>h x (List.mem_cons_of_mem _ hx)
      exact this W hno
  . rw [if_neg hk,if_neg hk]
end
section
open Go.RowKit
attribute [local irreducible] FS FO IT HS
def tkE (rows cols : Int) (l : List Tri) : List Tri:=(cmbR 1 (tris rows cols (l.take 60))).1
def tkL (r a b : Int) (l : List Tri) : List Tri:=(tkE (a.tmod 40) (b.tmod 40) l).map fun x=>(x.1,x.2.1,facR (rgt r) x.2.2)
theorem stB_map (rows : Int) (E : List Tri) (f : Int -> Int) : stB rows (E.map fun x=>(x.1,x.2.1,f x.2.2)) = stB rows E:=by
  unfold stB
  refine tab_congr fun k _=>?_
  have : cntB (E.map fun x=>(x.1,x.2.1,f x.2.2)) k = cntB E k:=by
    unfold cntB
    rw [List.filter_map,List.length_map]; rfl
  rw [this]
theorem tkM_T (r a b : Int) (l : List Tri) : tkM r a b l = (a.tmod 40,b.tmod 40,stB (a.tmod 40) (tkL r a b l),(tkL r a b l).map (fun x=>x.2.1),(tkL r a b l).map fun x=>x.2.2):=by
  unfold tkL
  rw [stB_map]
  simp only [List.map_map]
  unfold tkM smM bM
  simp only [List.map_map]
  rfl
theorem okT_tk {r a b : Int} {l : List Tri} (ha : 0 <= a /\ a <= 255) (hb : 0 <= b /\ b <= 255) (hl : ∀ x ∈ l,I64 x.2.2) : OkT (a.tmod 40) (b.tmod 40) (tkL r a b l) /\ (∀ x ∈ tkL r a b l,I64 x.2.2 /\ ∃ n,I64 n /\ x.2.2 = facR (rgt r) n) /\ (tkL r a b l).length <= 60:=by
  have hr:=tmod_bd (a:=a) (k:=40) ha.1 (by omega)
  have hc:=tmod_bd (a:=b) (k:=40) hb.1 (by omega)
  have hi:=tris_in hr.1 hc.1 (mem60 hl)
  have hlen:=tris_len (a.tmod 40) (b.tmod 40) (l.take 60)
  have h60:=take60 l
  have hcl:=cmbR_len 1 (tris (a.tmod 40) (b.tmod 40) (l.take 60))
  have hrise:=cmbR_rise 1 (tris (a.tmod 40) (b.tmod 40) (l.take 60))
  have hzb:=(smM_ok (rows:=a.tmod 40) (cols:=b.tmod 40) ⟨hr.1,by omega⟩ ⟨hc.1,by omega⟩ hl).2.2
  have hmem : ∀ x ∈ (cmbR 1 (tris (a.tmod 40) (b.tmod 40) (l.take 60))).1,0 <= x.1 /\ x.1 < a.tmod 40 /\ 0 <= x.2.1 /\ x.2.1 < b.tmod 40:=fun x hx=>by
    have:=cmbR_mem (r:=1) (l:=tris (a.tmod 40) (b.tmod 40) (l.take 60)) (Q:=fun p q=>0 <= p /\ p < a.tmod 40 /\ 0 <= q /\ q < b.tmod 40) (fun x hx=>of_decide_eq_true (List.all_eq_true.1 hi.1 x hx)) x hx
    exact this
  have hval : ∀ x ∈ (cmbR 1 (tris (a.tmod 40) (b.tmod 40) (l.take 60))).1,I64 x.2.2:=fun x hx=>hzb _ (by
    unfold smM bM
    exact List.mem_map.2 ⟨x,hx,rfl⟩)
  unfold tkL tkE
  refine ⟨⟨⟨hr.1,by omega⟩,⟨hc.1,by omega⟩,?_,fun x hx=>?_,by rw [List.length_map]; omega⟩,fun x hx=>?_,by rw [List.length_map]; omega⟩
  . unfold Rise
    rw [List.pairwise_map]
    exact hrise.imp fun {p q} h=>by rw [bel_iff] at *; exact h
  . obtain ⟨y,hy,rfl⟩:=List.mem_map.1 hx
    exact hmem y hy
  . obtain ⟨y,hy,rfl⟩:=List.mem_map.1 hx
    exact ⟨facR_i (hval y hy),_,hval y hy,rfl⟩
theorem colT_bd {L : List Tri} (a : Int) : (colT L a).length <= L.length:=by
  have:=pt_length L a.toNat
  have:=cntB_le L (a.toNat + 1)
  unfold colT
  rw [List.length_map]; omega
theorem colT_of {L : List Tri} {a : Int} {y : Int × Int} (h : y ∈ colT L a) : ∃ x ∈ L,y = (x.2.1,x.2.2):=by
  unfold colT at h
  obtain ⟨x,hx,rfl⟩:=List.mem_map.1 h
  exact ⟨x,pt_mem hx,rfl⟩
theorem turn_of {L : List Tri} {x : Tri} (h : x ∈ turnT L) : (x.2.1,x.1,x.2.2) ∈ L:=by
  obtain ⟨x1,x2,x3⟩:=x
  exact turn_in.1 h
end
end Go.Proofs.YtelbhbadkbcakaaGreat
