/- A matrix's product by blocks: block.Times. Pushed or pulled, whichever is meant: policy.Sums. TopBlocks. -/
import Derived.Test.YtelbhbadkbcakaaGreatL4
namespace Go.Proofs.YtelbhbadkbcakaaGreat
section
open Go.RowKit
attribute [local irreducible] FS FO IT HS
section
variable {R rows cols p q : Int} {L : List Tri} {W : List (Int × Int)}
theorem entI_fold (j' i j : Int) (o : List (Int × Int)) : ∀ m : Nat,(entI R rows cols p q L W j' m).foldl (fun o x=>if x.1 = (i,j) then x.2 else o) o = if j' = j /\ 0 <= i /\ i < m then blM R rows cols p q L W i j else o
  | 0=>by rw [if_neg (by omega)]; rfl
  | m + 1 => by
    rw [show entI R rows cols p q L W j' (m + 1) = entI R rows cols p q L W j' m ++ [(((m : Int),j'),blM R rows cols p q L W m j')] by simp [entI,List.range_succ],List.foldl_append,entI_fold j' i j o m,List.foldl_cons,List.foldl_nil]
    by_cases h : j' = j /\ i = m
    . obtain ⟨rfl,rfl⟩:=h
      rw [if_pos rfl,if_pos ⟨rfl,by omega,by omega⟩]
    . rw [if_neg (by simp only [Prod.mk.injEq]; omega)]
      by_cases h2 : j' = j /\ 0 <= i /\ i < m
      . rw [if_pos h2,if_pos (by omega)]
      . rw [if_neg h2,if_neg (by omega)]
theorem row_none {r : Int} {g : Int -> Option Int} (hg : ∀ c,g c = none) : ∀ (l : List (Int × Int)),l.foldl (rowF r g) none = none
  | []=>rfl
  | x :: l => by
    rw [List.foldl_cons]
    unfold rowF
    rw [hg]
    exact row_none hg l
theorem blM_nil {i j : Int} (h : bW cols q j W = []) : blM R rows cols p q L W i j = []:=by
  have : ppS R (szI rows p i) (bT rows cols p q i j L) [] = []:=by
    refine up_ext (gt_ppS 0).1 .nil fun k=>?_
    rw [(gt_ppS k).2]
    unfold rowO
    split
    . exact row_none (fun _=>rfl) _
    . rfl
  unfold blM blS
  rw [h,this]; rfl
theorem lookE_J {i : Nat} (hi : (i : Int) < p) (j : Nat) : ∀ n : Nat,lookE (entJ R rows cols p q L W n) i j = if j < n then blM R rows cols p q L W i j else []
  | 0=>by rw [if_neg (by omega)]; rfl
  | n + 1 => by
    unfold lookE
    rw [entJ,List.foldl_append]
    have ih:=lookE_J hi j n
    unfold lookE at ih
    rw [ih]
    by_cases hn : bW cols q n W = []
    . rw [if_pos hn,List.foldl_nil]
      by_cases h : j < n
      . rw [if_pos h,if_pos (by omega)]
      . rw [if_neg h]
        split
        . obtain rfl : j = n:=by omega
          exact (blM_nil hn).symm
        . rfl
    . rw [if_neg hn,entI_fold]
      by_cases h : (n : Int) = j
      . rw [if_pos (by omega),if_pos (by omega)]
      . rw [if_neg (by omega)]
        by_cases h : j < n
        . rw [if_pos h,if_pos (by omega)]
        . rw [if_neg h,if_neg (by omega)]
end
theorem fs_of_cvcT {f : FuncId} {N : Nat} {ir : IR} {rs : List RV} (hc : Code1 Tryz.prog f N ir rs) {args : List SV} {res : SV} (hN : args.length <= N) {g0 : FuncId} {args0 : List SV} {E : List Ent} (hp : SV.pure.pureL args0 = true) (hB : HB g0 args0 E)
    (h : cvc Tryz.prog 0 [] (yT g0 args0 E) ir (argE 0 args) [] none fun ex e' H' _=>finK ex (resK rs e' H' fun sv=>frzK 4 H' sv fun y=>leV 0 y res)) : FS Tryz.prog f args res:=by
  unfold FS
  refine ⟨hc.enter,fun w A vs hfin hlen hr=>(calls_of_cvc mixed hc hN (R:=fun sv H' _=>frzK 4 H' sv fun y=>leV 0 y res) (yok_T hp hB hfin rfl) (fun b h=>h) h hfin (WRel.nil w A) ⟨hlen,hr⟩ ⟨fun b hb=>by simp at hb,Nat.le_refl w.heap.size⟩).mono ?_⟩
  rintro e w' ⟨v,A',β',sv,H',g',rfl,hR,hcur,hrep,_⟩
  obtain ⟨y,hy,hfz⟩:=frzK_sound 4 sv _ hR
  refine ⟨v,rfl,⟨hcur.frm.os,hcur.frm.tape,hcur.frm.output,hcur.frm.drn,hcur.frm.size,fun b hb=>hcur.frm.keep b hb (by simp)⟩,leV_rep hy (hfz w' A' A β' v hcur.rel.wb (fun b hb=>(hcur.agree b (hfin b hb)).2 hb) (fun k b _ hk _ _ ha=>?_) hrep)⟩
  have:=hcur.fresh k b hk (hfin b ha)
  simp at this
noncomputable def ir_block_Times : IR :=
(.seq (.reg (⟨some 6,.bx (.t 1),none⟩::⟨some 7,.bx (.t 2),none⟩::⟨some 10,.mv (.c (.nils)),none⟩::⟨some 11,.mv (.c (.int .i64 0)),none⟩::[])) (.seq (.seq (.reg (⟨some 17,.ld 5 true (.t 6),none⟩::⟨some 18,.call (.c (.fn 19 [])) [(.t 17)],none⟩::⟨some 19,.un .not (.t 18),none⟩::[])) (.cond (.t 19) (.reg (⟨some 20,.bld [.int .i64 0,.int .i64 0,.nils,.nils,.nils] [],none⟩::⟨some 21,.bld [.int .i64 0,.int .i64 0] [],none⟩::⟨some 22,.bld [.int .i64 0,.int .i64 0] [],none⟩::⟨some 23,.call (.c (.fn 20 [])) [(.t 20),(.t 21),(.t 22)],none⟩::⟨none,.st 5 (.t 6) (.t 23),none⟩::[])) .skip)) (.seq (.seq (.reg (⟨some 24,.ld 2 true (.t 7),none⟩::⟨some 25,.call (.c (.fn 21 [])) [(.t 24)],none⟩::⟨some 26,.un .not (.t 25),none⟩::[])) (.cond (.t 26) (.reg (⟨some 27,.bld [.int .i64 0,.nils] [],none⟩::⟨none,.st 2 (.t 7) (.t 27),none⟩::[])) .skip)) (.seq (.block 0 (.seq (.reg (⟨some 29,.mv (.t 0),none⟩::⟨some 30,.call (.c (.fn 22 [])) [(.t 29)],none⟩::⟨some 31,.un .not (.t 30),none⟩::⟨some 28,.mv (.t 31),none⟩::[])) (.cond (.t 28) (.seq (.reg (⟨some 10,.mv (.c (.nils)),none⟩::⟨some 11,.mv (.c (.int .i64 8)),none⟩::[])) .ret) (.seq (.reg (⟨some 33,.mv (.t 3),none⟩::⟨some 34,.call (.c (.fn 23 [])) [(.t 33)],none⟩::⟨some 35,.un .not (.t 34),none⟩::⟨some 36,.mv (.t 35),none⟩::⟨some 37,.mv (.t 4),some (36,false)⟩::⟨some 38,.call (.c (.fn 23 [])) [(.t 37)],some (36,false)⟩::⟨some 39,.un .not (.t 38),some (36,false)⟩::⟨some 40,.pick (.t 36) (.c (.bool true)) (.t 39),none⟩::⟨some 32,.mv (.t 40),none⟩::[])) (.cond (.t 32) (.seq (.reg (⟨some 10,.mv (.c (.nils)),none⟩::⟨some 11,.mv (.c (.int .i64 3)),none⟩::[])) .ret) (.seq (.reg (⟨some 42,.fa 0 (.t 7),none⟩::⟨some 43,.ld 1 false (.t 42),none⟩::⟨some 44,.fa 1 (.t 6),none⟩::⟨some 45,.ld 1 false (.t 44),none⟩::⟨some 46,.bin .neq (.t 43) (.t 45),none⟩::⟨some 41,.mv (.t 46),none⟩::[])) (.cond (.t 41) (.seq (.reg (⟨some 10,.mv (.c (.nils)),none⟩::⟨some 11,.mv (.c (.int .i64 4)),none⟩::[])) .ret) .skip))))))) (.seq (.reg (⟨some 48,.mv (.t 0),none⟩::⟨some 49,.ld 5 true (.t 6),none⟩::⟨some 50,.ld 2 true (.t 7),none⟩::⟨some 51,.mv (.t 3),none⟩::⟨some 52,.mv (.t 4),none⟩::⟨some 53,.call (.c (.fn 24 [])) [(.t 48),(.t 49),(.t 50),(.t 51),(.t 52)],none⟩::⟨some 47,.mv (.t 53),none⟩::⟨some 54,.ex 0 (.t 47),none⟩::⟨some 55,.ex 1 (.t 47),none⟩::⟨some 12,.mv (.t 54),none⟩::⟨some 13,.mv (.t 55),none⟩::[])) (.seq (.seq (.reg (⟨some 56,.mv (.t 13),none⟩::⟨some 57,.bin .neq (.t 56) (.c (.int .i64 0)),none⟩::[])) (.cond (.t 57) (.seq (.reg (⟨some 58,.mv (.t 13),none⟩::⟨some 10,.mv (.c (.nils)),none⟩::⟨some 11,.mv (.t 58),none⟩::[])) .ret) .skip)) (.seq (.reg (⟨some 14,.mv (.c (.nils)),none⟩::[])) (.seq (.seq (.reg (⟨some 59,.mv (.t 3),none⟩::⟨some 60,.mv (.c (.int .i64 0)),none⟩::[])) (.block 1 (.loop (.seq (.reg (⟨some 61,.bin .lss (.t 60) (.t 59),none⟩::[])) (.seq (.cond (.t 61) .skip (.exit 1)) (.seq (.block 2 (.seq (.reg (⟨some 62,.mv (.t 60),none⟩::⟨some 15,.mv (.t 62),none⟩::[])) (.seq (.reg (⟨some 63,.mv (.t 4),none⟩::⟨some 64,.mv (.c (.int .i64 0)),none⟩::[])) (.block 3 (.loop (.seq (.reg (⟨some 65,.bin .lss (.t 64) (.t 63),none⟩::[])) (.seq (.cond (.t 65) .skip (.exit 3)) (.seq (.block 4 (.seq (.reg (⟨some 66,.mv (.t 64),none⟩::⟨some 16,.mv (.t 66),none⟩::[])) (.reg (⟨some 67,.mv (.t 14),none⟩::⟨some 68,.mv (.t 12),none⟩::⟨some 69,.mv (.t 15),none⟩::⟨some 70,.mv (.t 16),none⟩::⟨some 71,.bld [.int .i64 0,.int .i64 0] [(0,1,(.t 69)),(1,1,(.t 70))],none⟩::⟨some 72,.oth (opAt Tryz.f8 74),none⟩::⟨some 73,.bsl 1 1 [.nils] [(0,(.t 72))],none⟩::⟨some 74,.ap 1 24 (.t 67) (.t 73),none⟩::⟨some 14,.mv (.t 74),none⟩::[])))) (.reg (⟨some 75,.bin .add (.t 64) (.c (.int .i64 1)),none⟩::⟨some 64,.mv (.t 75),none⟩::[])))))))))) (.reg (⟨some 76,.bin .add (.t 60) (.c (.int .i64 1)),none⟩::⟨some 60,.mv (.t 76),none⟩::[])))))))) (.seq (.reg (⟨some 77,.mv (.t 0),none⟩::⟨some 78,.mv (.t 14),none⟩::⟨some 79,.call (.c (.fn 25 [])) [(.t 77),(.t 78)],none⟩::⟨some 80,.ex 0 (.t 79),none⟩::⟨some 81,.ex 1 (.t 79),none⟩::⟨some 10,.mv (.t 80),none⟩::⟨some 11,.mv (.t 81),none⟩::[])) .ret)))))))))
theorem cd_block_Times : Code1 Tryz.prog 8 82 ir_block_Times [.t 10,.t 11]:=⟨Tryz.call8,_,_,Tryz.func8,rfl,by kernel_rfl,by kernel_rfl,by kernel_rfl,by kernel_rfl⟩
set_option maxHeartbeats 8000000 in
theorem fs_bTimes {R rows cols p q : Int} (hR : isR R = true) {L : List Tri} (hT : OkT rows cols L) (hL : L.length <= 60) (hI : ∀ x ∈ L,I64 x.2.2) {W : List (Int × Int)} (hV : OkV cols W) (hWl : W.length <= 60) (hWi : ∀ x ∈ W,I64 x.2) (hp : 1 <= p /\ p <= 8) (hq : 1 <= q /\ q <= 8) (hLF : ∀ x ∈ L,FR R x.2.2) (hWV : ∀ x ∈ W,VR R x.2)
    (hw : ∀ i j : Nat,(i : Int) < p -> (j : Int) < q -> ∀ x ∈ blM R rows cols p q L W i j,W128 x.2) :
    FS Tryz.prog 8 [.int .i64 R,MTr rows cols L,VC cols W,.int .i64 p,.int .i64 q] (.tup [SM (ppS R rows L W),.int .i64 0]):=by
  have hB:=hb_blocks hR hT hL hI hV hWl hWi hp hq
  have hlk : ∀ i j : Nat,(i : Int) < p -> (j : Int) < q -> lookE (entJ R rows cols p q L W q.toNat) i j = blM R rows cols p q L W i j:=fun i j hi hj=>by rw [lookE_J hi,if_pos (by omega)]
  have hblk : ∀ i j : Nat,(i : Int) < p -> (j : Int) < q -> Up (blM R rows cols p q L W i j) /\ (blM R rows cols p q L W i j).length <= 4096:=fun i j hi hj=>by
    have hg : GridI p q i j:=⟨hp.1,hp.2,hq.1,hq.2,Int.natCast_nonneg i,hi,Int.natCast_nonneg j,hj⟩
    refine ⟨(gt_blM hT hV hg 0).1,?_⟩
    have hlow:=part_in (may_of hT.r hp.1 hp.2) (Int.natCast_nonneg i) hi
    have:=hT.r
    unfold blM blS
    rw [List.length_map]
    exact ppS_len (by unfold szI; omega) (by unfold szI; omega)
  have hM:=blocks_sum hR hT hV hp hq hLF hWV
  have hlen:=bpI_len (R:=R) (rows:=rows) (cols:=cols) (p:=p) (q:=q) (L:=L) (W:=W) p.toNat
  have hlen2 : (bpI R rows cols p q L W p.toNat).length <= 64:=by rw [hlen]; exact Nat.mul_le_mul (show p.toNat <= 8 by omega) (show q.toNat <= 8 by omega)
  have c5:=fo_Merge R hR (bpI R rows cols p q L W p.toNat) (by omega) (fun c hc=>by
    obtain ⟨i,j,hi,hj,rfl⟩:=bpI_mem hc
    have:=hblk i j (by omega) (by omega)
    exact ⟨up_risC this.1,by omega⟩) (fun c hc=>by
    obtain ⟨i,j,hi,hj,rfl⟩:=bpI_mem hc
    exact hw i j (by omega) (by omega)) (by
    have h1 : ∀ l ∈ bpI R rows cols p q L W p.toNat,l.length <= 4096:=fun l hl=>by
      obtain ⟨i,j,hi,hj,rfl⟩:=bpI_mem hl
      exact (hblk i j (by omega) (by omega)).2
    have h2:=tw_in h1 _ (Nat.le_refl _)
    have h3 : (bpI R rows cols p q L W p.toNat).length * 4096 <= 64 * 4096:=Nat.mul_le_mul_right _ hlen2
    omega)
  rw [hM] at c5
  have c1:=fs_mRight rows cols (stB rows L) (L.map fun x=>x.2.1) (L.map fun x=>x.2.2)
  rw [hT.ok.right] at c1
  have c1' : FS Tryz.prog 19 [MTr rows cols L] (.bool true):=c1
  have c2:=fs_vRight cols W (by omega)
  rw [hV.isV] at c2
  have c3:=fs_Is R
  rw [hR] at c3
  have c4:=fs_bside p
  rw [sideB_of hp.1 hp.2] at c4
  have c6:=fs_bside q
  rw [sideB_of hq.1 hq.2] at c6
  refine fs_of_cvcT cd_block_Times (by simp) rfl hB ?_
  obtain ⟨E,hE⟩ : ∃ E,entJ R rows cols p q L W q.toNat = E:=⟨_,rfl⟩
  rw [hE] at hlk ⊢
  clear hB
  repeat' (conv=>whnf); first |(refine Or.inl ⟨by rfl,_,c1',?_⟩) |(refine Or.inl ⟨by rfl,_,c2,?_⟩) |(refine Or.inl ⟨by rfl,_,c3,?_⟩) |(refine Or.inl ⟨by rfl,_,c4,?_⟩) |(refine Or.inl ⟨by rfl,_,c6,?_⟩) |(refine ⟨rfl,rfl,fun mb=>?_⟩) |(refine And.intro (show _ <= _ from Nat.le_of_ble_eq_true rfl) ?_) | refine Br.ff ?_ |(refine Br.dec (fun h=>?_) (fun h=>?_)) <;> try (exfalso; omega) | refine And.intro rfl ?_ | fail
  refine ⟨Nat,fun i=>(i : Int) <= p,fun i=>[(0,.int .i64 R),(4,.int .i64 q),(12,.raw (.map (some mb))),(14,.osl 2 1 0 (bpI R rows cols p q L W i).length),(59,.int .i64 p),(60,.int .i64 (i : Int))],fun i=>[.vars [.int .i64 rows,.int .i64 cols,Z (stB rows L),Z (L.map fun x=>x.2.1),Z (L.map fun x=>x.2.2)],.vars [.int .i64 cols,IL W],.arr 1 (cls (bpI R rows cols p q L W i))],fun _=>some (mb * (E.length + 2) + E.length),fun i=>p.toNat - i,
    ⟨0,(by omega),⟨rfl,rfl,rfl,⟨Nat.le_refl _,rfl,rfl⟩,rfl,rfl,trivial⟩,⟨⟨rfl,rfl,rfl,rfl,rfl,trivial⟩,⟨rfl,rfl,trivial⟩,rfl,trivial⟩,rfl⟩,fun i hi=>?_⟩
  have hi' : (i : Int) <= p:=hi
  by_cases hip : (i : Int) < p
  . have hbI:=bpI_len (R:=R) (rows:=rows) (cols:=cols) (p:=p) (q:=q) (L:=L) (W:=W) i
    have hbI2 : (bpI R rows cols p q L W i).length <= 64:=by rw [hbI]; exact Nat.mul_le_mul (show i <= 8 by omega) (show q.toNat <= 8 by omega)
    have hsucc : bpI R rows cols p q L W (i + 1) = bpI R rows cols p q L W i ++ bpJ R rows cols p q L W i q.toNat:=rfl
    repeat' (conv=>whnf); first |(refine Br.dec (fun h=>?_) (fun h=>?_)) <;> try (exfalso; omega) | refine And.intro rfl ?_ | fail
    refine ⟨Nat,fun j=>(j : Int) <= q,fun j=>[(0,.int .i64 R),(4,.int .i64 q),(12,.raw (.map (some mb))),(14,.osl 2 1 0 (bpI R rows cols p q L W i ++ bpJ R rows cols p q L W i j).length),(15,.int .i64 (i : Int)),(59,.int .i64 p),(60,.int .i64 (i : Int)),(63,.int .i64 q),(64,.int .i64 (j : Int))],fun j=>[.vars [.int .i64 rows,.int .i64 cols,Z (stB rows L),Z (L.map fun x=>x.2.1),Z (L.map fun x=>x.2.2)],.vars [.int .i64 cols,IL W],.arr 1 (cls (bpI R rows cols p q L W i ++ bpJ R rows cols p q L W i j))],fun _=>some (mb * (E.length + 2) + E.length),fun j=>q.toNat - j,
      ⟨0,(by omega),⟨rfl,rfl,rfl,?_,rfl,rfl,rfl,rfl,rfl,trivial⟩,⟨⟨rfl,rfl,rfl,rfl,rfl,trivial⟩,⟨rfl,rfl,trivial⟩,?_,trivial⟩,rfl⟩,fun j hj=>?_⟩
    . refine congrArg (SV.osl 2 1 0) ?_
      rw [bpJ,List.append_nil]
    . refine congrArg (fun l=>Blk.arr 1 (cls l)) ?_
      rw [bpJ,List.append_nil]
    have hj' : (j : Int) <= q:=hj
    by_cases hjq : (j : Int) < q
    . have hl:=hlk i j hip hjq
      have hbJ:=bpJ_len (R:=R) (rows:=rows) (cols:=cols) (p:=p) (q:=q) (L:=L) (W:=W) i j
      have hcl:=cl_len (bpI R rows cols p q L W i ++ bpJ R rows cols p q L W i j)
      have hal : (bpI R rows cols p q L W i ++ bpJ R rows cols p q L W i j).length <= 1000:=by rw [List.length_append]; omega
      have hsj : bpI R rows cols p q L W i ++ bpJ R rows cols p q L W i (j + 1) = (bpI R rows cols p q L W i ++ bpJ R rows cols p q L W i j) ++ [blM R rows cols p q L W i j]:=by rw [bpJ,List.append_assoc]
      generalize blM R rows cols p q L W i j = M at *
      repeat' (conv=>whnf); first |((refine ⟨mb,E.length,i,j,rfl,rfl,by unfold I64; omega,by unfold I64; omega,Nat.le_refl _,rfl,?_⟩; rw [List.take_length,hl])) |(refine And.intro (show _ <= _ from Nat.le_of_ble_eq_true rfl) ?_) |((refine And.intro (fun y hy=>by rcases List.mem_singleton.1 hy with rfl; rfl) ?_)) |(refine Br.dec (fun h=>?_) (fun h=>?_)) <;> try (exfalso; omega) | refine And.intro rfl ?_ |(refine And.intro (by omega) ?_) |(refine ⟨_,Or.inl ⟨⟨by omega,by omega⟩,rfl⟩,?_⟩) |(refine And.intro (by simp only [lens_all]; first | done | omega) ?_) | fail
      refine ⟨j + 1,(show ((j + 1 : Nat) : Int) <= q by omega),(show q.toNat - (j + 1) < q.toNat - j by omega),⟨rfl,rfl,rfl,?_,rfl,rfl,rfl,rfl,rfl,trivial⟩,⟨⟨rfl,rfl,rfl,rfl,rfl,trivial⟩,⟨rfl,rfl,trivial⟩,?_,trivial⟩,rfl⟩
      . refine congrArg (SV.osl 2 1 0) ?_
        rw [hsj,List.length_append (bs:=[_])]; rfl
      . show Blk.arr 1 (cls (bpI R rows cols p q L W i ++ bpJ R rows cols p q L W i j) ++ [[SM M]]) = _
        rw [hsj]; simp [cls]
    . obtain rfl : j = q.toNat:=by omega
      repeat' (conv=>whnf); first |(refine Br.dec (fun h=>?_) (fun h=>?_)) <;> try (exfalso; omega) | refine And.intro rfl ?_ |(refine ⟨_,Or.inl ⟨⟨by omega,by omega⟩,rfl⟩,?_⟩) | fail
      refine ⟨i + 1,(show ((i + 1 : Nat) : Int) <= p by omega),(show p.toNat - (i + 1) < p.toNat - i by omega),⟨rfl,rfl,rfl,?_,rfl,rfl,trivial⟩,⟨⟨rfl,rfl,rfl,rfl,rfl,trivial⟩,⟨rfl,rfl,trivial⟩,?_,trivial⟩,rfl⟩
      . exact congrArg (fun l=>SV.osl 2 1 0 (List.length l)) hsucc.symm
      . exact congrArg (fun l=>Blk.arr 1 (cls l)) hsucc.symm
  . obtain rfl : i = p.toNat:=by omega
    obtain ⟨Q,hQ⟩ : ∃ Q,bpI R rows cols p q L W p.toNat = Q:=⟨_,rfl⟩
    have hcl:=cl_len Q
    rw [hQ] at c5 hlen2
    have c5' : FO Tryz.prog 25 [.int .i64 R,.slc 1 (List.take Q.length (List.drop 0 (cls Q)))] (.tup [.osl 0 3 0 (ppS R rows L W).length,.int .i64 0]) [.arr 3 (sms (ppS R rows L W))]:=by
      rw [List.drop_zero,List.take_of_length_le (by rw [cl_len]; exact Nat.le_refl _)]
      exact c5
    rw [<- hQ] at c5'
    repeat' (conv=>whnf); first |(refine Or.inr (Or.inr (Or.inr (Or.inr (Or.inl ?_))))) |(refine ⟨_,_,c5',rfl,sms_loose _,?_⟩) |(refine Br.dec (fun h=>?_) (fun h=>?_)) <;> try (exfalso; omega) | refine And.intro rfl ?_ |(refine And.intro (by simp only [sms_len,cl_len]; first | done | omega) ?_) | fail
    conv=>whnf
    rw [frz_sms]
    exact rfl
end
section
open Go.RowKit
attribute [local irreducible] FS FO IT HS
theorem sr_w {r s : Int} (h : SR r s) : W128 s:=by
  unfold SR at h
  rcases h with ⟨_,h⟩ | ⟨_,h⟩ | ⟨_,h⟩
  . exact h
  . unfold W128; omega
  . unfold W128; omega
theorem ppS_sr {R rows : Int} {L : List Tri} {W : List (Int × Int)} (hL : ∀ x ∈ L,FR R x.2.2) (hW : ∀ x ∈ W,VR R x.2) : ∀ x ∈ ppS R rows L W,SR R x.2:=fun x hx=>by
  have e:=gt_some (gt_ppS (R:=R) (rows:=rows) (L:=L) (W:=W) 0).1 hx
  rw [(gt_ppS x.1).2] at e
  split at e
  . exact row_sr (fun c v hv=>hW _ (gt_mem hv)) _ (fun y hy=>by
      obtain ⟨z,hz,rfl⟩:=colT_of hy
      exact hL z hz) none (fun s hs=>by cases hs) _ e
  . cases e
theorem blM_w {R rows cols p q : Int} {L : List Tri} {W : List (Int × Int)} (hT : OkT rows cols L) (hL : ∀ x ∈ L,FR R x.2.2) (hW : ∀ x ∈ W,VR R x.2) (i j : Int) : ∀ x ∈ blM R rows cols p q L W i j,W128 x.2:=fun x hx=>by
  unfold blM blS at hx
  obtain ⟨y,hy,rfl⟩:=List.mem_map.1 hx
  refine sr_w (ppS_sr (fun z hz=>?_) (fun z hz=>?_) y hy)
  . exact hL (lowI rows p i + z.1,lowI cols q j + z.2.1,z.2.2) ((cutN_in hT (low_bd rows p i).1 (p:=z.1) (q:=z.2.1) (v:=z.2.2) _).1 hz).2.2.2.2
  . obtain ⟨u,hu,rfl⟩:=bW_of hz
    exact hW u hu
def PT (R rows cols : Int) (st col val jc cp ir num : List Int) (s : Int) (W : List (Int × Int)) (way : Int) : SV :=
  if s = 2 then .agg [.int .i64 R,.int .i64 rows,.int .i64 cols,Z st,Z col,Z val,.int .i64 rows,.int .i64 cols,Z jc,Z cp,Z ir,Z num,.int .i64 2,.int .i64 0,.nils,.int .i64 cols,U (toF cols W),Z (toL cols W),.nils,.bool true,.int .i64 way]
  else .agg [.int .i64 R,.int .i64 rows,.int .i64 cols,Z st,Z col,Z val,.int .i64 rows,.int .i64 cols,Z jc,Z cp,Z ir,Z num,.int .i64 1,.int .i64 cols,IL W,.int .i64 0,.nils,.nils,.nils,.bool true,.int .i64 way]
def ir_policy_Task_push : IR :=
(.seq (.reg (⟨some 1,.bx (.t 0),none⟩::⟨some 2,.mv (.c (.nils)),none⟩::⟨some 3,.mv (.c (.int .i64 0)),none⟩::[])) (.seq (.draw (⟨some 4,.fa 0 (.t 1),none⟩::⟨some 5,.ld 1 false (.t 4),none⟩::⟨some 6,.fa 6 (.t 1),none⟩::⟨some 7,.ld 6 true (.t 6),none⟩::⟨some 8,.fa 12 (.t 1),none⟩::⟨some 9,.ld 6 true (.t 8),none⟩::⟨some 10,.call (.c (.fn 28 [])) [(.t 9)],none⟩::⟨some 11,.fa 18 (.t 1),none⟩::⟨some 12,.ld 1 false (.t 11),none⟩::⟨some 13,.fa 19 (.t 1),none⟩::⟨some 14,.ld 1 false (.t 13),none⟩::⟨some 15,.call (.c (.fn 54 [])) [(.t 5),(.t 7),(.t 10),(.t 12),(.t 14)],none⟩::⟨some 16,.ex 0 (.t 15),none⟩::⟨some 17,.ex 1 (.t 15),none⟩::[]) (⟨some 2,.mv (.t 16),none⟩::⟨some 3,.mv (.t 17),none⟩::[])) .ret))
theorem cd_policy_Task_push : Code1 Tryz.prog 30 18 ir_policy_Task_push [.t 2,.t 3]:=⟨Tryz.call30,_,_,Tryz.func30,rfl,by kernel_rfl,by kernel_rfl,by kernel_rfl,by kernel_rfl⟩
def ir_policy_Task_pull : IR :=
(.seq (.reg (⟨some 1,.bx (.t 0),none⟩::⟨some 2,.mv (.c (.nils)),none⟩::⟨some 3,.mv (.c (.int .i64 0)),none⟩::[])) (.seq (.draw (⟨some 4,.fa 0 (.t 1),none⟩::⟨some 5,.ld 1 false (.t 4),none⟩::⟨some 6,.fa 1 (.t 1),none⟩::⟨some 7,.ld 5 true (.t 6),none⟩::⟨some 8,.fa 12 (.t 1),none⟩::⟨some 9,.ld 6 true (.t 8),none⟩::⟨some 10,.call (.c (.fn 66 [])) [(.t 9)],none⟩::⟨some 11,.fa 18 (.t 1),none⟩::⟨some 12,.ld 1 false (.t 11),none⟩::⟨some 13,.fa 19 (.t 1),none⟩::⟨some 14,.ld 1 false (.t 13),none⟩::⟨some 15,.call (.c (.fn 65 [])) [(.t 5),(.t 7),(.t 10),(.t 12),(.t 14)],none⟩::⟨some 16,.ex 0 (.t 15),none⟩::⟨some 17,.ex 1 (.t 15),none⟩::[]) (⟨some 2,.mv (.t 16),none⟩::⟨some 3,.mv (.t 17),none⟩::[])) .ret))
theorem cd_policy_Task_pull : Code1 Tryz.prog 31 18 ir_policy_Task_pull [.t 2,.t 3]:=⟨Tryz.call31,_,_,Tryz.func31,rfl,by kernel_rfl,by kernel_rfl,by kernel_rfl,by kernel_rfl⟩
def ir_policy_Sums : IR :=
(.seq (.reg (⟨some 1,.bx (.t 0),none⟩::⟨some 2,.mv (.c (.nils)),none⟩::⟨some 3,.mv (.c (.int .i64 0)),none⟩::⟨some 4,.mv (.c (.int .i64 0)),none⟩::[])) (.seq (.draw (⟨some 9,.fa 20 (.t 1),none⟩::⟨some 10,.ld 1 false (.t 9),none⟩::⟨some 11,.fa 6 (.t 1),none⟩::⟨some 12,.ld 6 true (.t 11),none⟩::⟨some 13,.fa 12 (.t 1),none⟩::⟨some 14,.ld 6 true (.t 13),none⟩::⟨some 15,.call (.c (.fn 28 [])) [(.t 14)],none⟩::⟨some 16,.call (.c (.fn 27 [])) [(.t 12),(.t 15)],none⟩::⟨some 17,.fa 1 (.t 1),none⟩::⟨some 18,.ld 5 true (.t 17),none⟩::⟨some 19,.call (.c (.fn 29 [])) [(.t 18)],none⟩::[]) (⟨some 20,.call (.c (.fn 26 [])) [(.t 10),(.t 16),(.t 19)],none⟩::⟨some 5,.mv (.t 20),none⟩::[])) (.seq (.reg (⟨some 21,.ld 21 true (.t 1),none⟩::⟨some 22,.fn 30 [(.c (.tup [])),(.t 21)],none⟩::⟨some 6,.mv (.t 22),none⟩::[])) (.seq (.seq (.reg (⟨some 23,.mv (.t 5),none⟩::⟨some 24,.bin .eql (.t 23) (.c (.int .i64 2)),none⟩::[])) (.cond (.t 24) (.reg (⟨some 25,.ld 21 true (.t 1),none⟩::⟨some 26,.fn 31 [(.c (.tup [])),(.t 25)],none⟩::⟨some 6,.mv (.t 26),none⟩::[])) .skip)) (.seq (.reg (⟨some 28,.mv (.t 6),none⟩::⟨some 29,.call (.t 28) [],none⟩::⟨some 27,.mv (.t 29),none⟩::⟨some 30,.ex 0 (.t 27),none⟩::⟨some 31,.ex 1 (.t 27),none⟩::⟨some 7,.mv (.t 30),none⟩::⟨some 8,.mv (.t 31),none⟩::[])) (.seq (.seq (.reg (⟨some 32,.mv (.t 8),none⟩::⟨some 33,.bin .neq (.t 32) (.c (.int .i64 0)),none⟩::[])) (.cond (.t 33) (.seq (.reg (⟨some 34,.mv (.t 8),none⟩::⟨some 2,.mv (.c (.nils)),none⟩::⟨some 3,.mv (.c (.int .i64 0)),none⟩::⟨some 4,.mv (.t 34),none⟩::[])) .ret) .skip)) (.seq (.reg (⟨some 35,.mv (.t 7),none⟩::⟨some 36,.mv (.t 5),none⟩::⟨some 37,.mv (.t 8),none⟩::⟨some 2,.mv (.t 35),none⟩::⟨some 3,.mv (.t 36),none⟩::⟨some 4,.mv (.t 37),none⟩::[])) .ret)))))))
theorem cd_policy_Sums : Code1 Tryz.prog 9 38 ir_policy_Sums [.t 2,.t 3,.t 4]:=⟨Tryz.call9,_,_,Tryz.func9,rfl,by kernel_rfl,by kernel_rfl,by kernel_rfl,by kernel_rfl⟩
section
variable {R rows cols : Int} (hR : isR R = true) {L : List Tri} (hT : OkT rows cols L) (hL : L.length <= 60) (hI : ∀ x ∈ L,I64 x.2.2) {W : List (Int × Int)} (hV : OkV cols W) (hWl : W.length <= 60) (hWi : ∀ x ∈ W,I64 x.2)
include hR hT hL hI hV hWl hWi
theorem fs_Tpush (s way : Int) : FS Tryz.prog 30 [PT R rows cols (stB rows L) (L.map fun x=>x.2.1) (L.map fun x=>x.2.2) (jcN (turnT L) (turnT L).length).1 (jcN (turnT L) (turnT L).length).2 ((turnT L).map fun x=>x.2.1) ((turnT L).map fun x=>x.2.2) s W way] (.tup [SM (ppS R rows L W),.int .i64 0]):=by
  refine fs_of_cvc mixed cd_policy_Task_push (by simp) ?_
  have c1:=fs_pVec s cols hV (by omega)
  have c2:=fs_pushed hR hT hL hI hV hWl hWi
  unfold PT
  unfold HV at c1
  generalize (jcN (turnT L) (turnT L).length).1 = jc at *
  generalize (jcN (turnT L) (turnT L).length).2 = cp at *
  generalize ((turnT L).map fun x=>x.2.1) = ir at *
  generalize ((turnT L).map fun x=>x.2.2) = num at *
  by_cases hs : s = 2
  . rw [if_pos hs] at *
    repeat' (conv=>whnf); first |(refine Or.inl ⟨by rfl,_,c1,?_⟩) |(refine Or.inl ⟨by rfl,_,c2,?_⟩) |(refine And.intro (show _ <= _ from Nat.le_of_ble_eq_true rfl) ?_) | fail
    all_goals exact rfl
  . rw [if_neg hs] at *
    repeat' (conv=>whnf); first |(refine Or.inl ⟨by rfl,_,c1,?_⟩) |(refine Or.inl ⟨by rfl,_,c2,?_⟩) |(refine And.intro (show _ <= _ from Nat.le_of_ble_eq_true rfl) ?_) | fail
    all_goals exact rfl
omit hL in
theorem fs_Tpull (s way : Int) (jc cp ir num : List Int) : FS Tryz.prog 31 [PT R rows cols (stB rows L) (L.map fun x=>x.2.1) (L.map fun x=>x.2.2) jc cp ir num s W way] (.tup [SM (ppS R rows L W),.int .i64 0]):=by
  refine fs_of_cvc mixed cd_policy_Task_pull (by simp) ?_
  have c1:=fs_pDense s cols hV (by omega)
  have hD:=okD_to hV
  have hM:=hT.ok
  have iN : I64 cols:=by have:=hT.c; unfold I64; omega
  have hzb : Zb (L.map fun x=>x.2.2):=fun v hv=>by
    obtain ⟨x,hx,rfl⟩:=List.mem_map.1 hv
    exact hI x hx
  have c2:=fs_pSumsN (r:=R) (rows:=rows) (cols:=cols) (st:=stB rows L) (col:=L.map fun x=>x.2.1) (val:=L.map fun x=>x.2.2) (n:=cols) (f:=toF cols W) (v:=toL cols W) (o:=true) hzb iN hD.wd (dl_f hV) (dl_v hV) (zb_toL hWi)
  rw [hM.mS,hD.dS,sumsR_fit hR rfl] at c2
  simp only at c2
  have eG : (fun i=>rowO R (dG (toF cols W) (toL cols W)) (rowL (stB rows L) (L.map fun x=>x.2.1) (L.map fun x=>x.2.2) i)) = fun i=>rowO R (gt W) (rowL (stB rows L) (L.map fun x=>x.2.1) (L.map fun x=>x.2.2) i):=by
    rw [show dG (toF cols W) (toL cols W) = gt W from funext fun c=>dG_to hV c]
  rw [eG] at c2
  have c2' : FS Tryz.prog 65 [.int .i64 R,MX rows cols (stB rows L) (L.map fun x=>x.2.1) (L.map fun x=>x.2.2),DV cols (toF cols W) (toL cols W),.nils,.bool true] (.tup [SM (ppS R rows L W),.int .i64 0]):=c2
  clear c2
  unfold PT
  unfold HV at c1
  by_cases hs : s = 2
  . rw [if_pos hs] at *
    repeat' (conv=>whnf); first |(refine Or.inl ⟨by rfl,_,c1,?_⟩) |(refine Or.inl ⟨by rfl,_,c2',?_⟩) |(refine And.intro (show _ <= _ from Nat.le_of_ble_eq_true rfl) ?_) | fail
    all_goals exact rfl
  . rw [if_neg hs] at *
    repeat' (conv=>whnf); first |(refine Or.inl ⟨by rfl,_,c1,?_⟩) |(refine Or.inl ⟨by rfl,_,c2',?_⟩) |(refine And.intro (show _ <= _ from Nat.le_of_ble_eq_true rfl) ?_) | fail
    all_goals exact rfl
set_option maxHeartbeats 4000000 in
theorem fs_polSums (s way : Int) : ∃ d : Int,FS Tryz.prog 9 [PT R rows cols (stB rows L) (L.map fun x=>x.2.1) (L.map fun x=>x.2.2) (jcN (turnT L) (turnT L).length).1 (jcN (turnT L) (turnT L).length).2 ((turnT L).map fun x=>x.2.1) ((turnT L).map fun x=>x.2.2) s W way] (.tup [SM (ppS R rows L W),.int .i64 d,.int .i64 0]):=by
  have hT':=hT.turn
  have hC:=okC_of hT'
  have c1:=fs_pVec s cols hV (by omega)
  have c2:=fs_puWork hC cols W (by omega) (W:=fun a=>((colT (turnT L) a).length : Int)) (fun a ha=>by
    rw [hV.sl] at ha
    unfold plsI at ha
    obtain ⟨z,hz,rfl⟩:=List.mem_map.1 ha
    exact (col_of hT' z.1 (hV.lo z hz).1).2)
  have c3:=fs_cCount hT
  obtain ⟨w,hw⟩ : ∃ w,((plsI (sl cols W)).map fun a=>((colT (turnT L) a).length : Int)).sum = w:=⟨_,rfl⟩
  rw [hw] at c2
  have c4:=fs_Direction way w L.length (by omega) (by omega)
  have c5:=fs_Tpush hR hT hL hI hV hWl hWi s way
  have c6:=fs_Tpull hR hT hI hV hWl hWi s way (jcN (turnT L) (turnT L).length).1 (jcN (turnT L) (turnT L).length).2 ((turnT L).map fun x=>x.2.1) ((turnT L).map fun x=>x.2.2)
  refine ⟨dirI way w L.length,?_⟩
  generalize dirI way w L.length = d at *
  refine fs_of_cvc mixed cd_policy_Sums (by simp) ?_
  unfold PT at *
  unfold HV at c1
  generalize (jcN (turnT L) (turnT L).length).1 = jc at *
  generalize (jcN (turnT L) (turnT L).length).2 = cp at *
  generalize ((turnT L).map fun x=>x.2.1) = ir at *
  generalize ((turnT L).map fun x=>x.2.2) = num at *
  by_cases hs : s = 2
  . rw [if_pos hs] at *
    repeat' (conv=>whnf); first |(refine Or.inl ⟨by rfl,_,c1,?_⟩) |(refine Or.inl ⟨by rfl,_,c2,?_⟩) |(refine Or.inl ⟨by rfl,_,c3,?_⟩) |(refine Or.inl ⟨by rfl,_,c4,?_⟩) |(refine Or.inl ⟨by rfl,_,c5,?_⟩) |(refine Or.inl ⟨by rfl,_,c6,?_⟩) |(refine And.intro (show _ <= _ from Nat.le_of_ble_eq_true rfl) ?_) | refine Br.ff ?_ |(refine Br.dec (fun h=>?_) (fun h=>?_)) <;> try (exfalso; omega) | refine And.intro rfl ?_ | fail
    all_goals exact rfl
  . rw [if_neg hs] at *
    repeat' (conv=>whnf); first |(refine Or.inl ⟨by rfl,_,c1,?_⟩) |(refine Or.inl ⟨by rfl,_,c2,?_⟩) |(refine Or.inl ⟨by rfl,_,c3,?_⟩) |(refine Or.inl ⟨by rfl,_,c4,?_⟩) |(refine Or.inl ⟨by rfl,_,c5,?_⟩) |(refine Or.inl ⟨by rfl,_,c6,?_⟩) |(refine And.intro (show _ <= _ from Nat.le_of_ble_eq_true rfl) ?_) | refine Br.ff ?_ |(refine Br.dec (fun h=>?_) (fun h=>?_)) <;> try (exfalso; omega) | refine And.intro rfl ?_ | fail
    all_goals exact rfl
end
end
section
open Go.RowKit
attribute [local irreducible] FS FO IT HS
theorem fs_five : FS Tryz.prog 12 [.int .i64 5,.int .i64 2,.int .i64 1] (.int .i64 3):=by
  have h:=fs_Size 5 2 1 (by unfold I64; omega)
  have e : sizeI 5 2 1 = 3:=by kernel_rfl
  rw [e] at h
  exact h
def ir_fretworktop_TopBlocks : IR :=
(.seq (.reg (⟨some 3,.bx (.t 0),none⟩::⟨some 4,.bx (.t 1),none⟩::⟨some 5,.bx (.t 2),none⟩::⟨some 6,.mv (.c (.bool false)),none⟩::[])) (.seq (.reg (⟨some 17,.fa 0 (.t 3),none⟩::⟨some 18,.ld 1 false (.t 17),none⟩::⟨some 19,.call (.c (.fn 4 [])) [(.t 18)],none⟩::⟨some 7,.mv (.t 19),none⟩::[])) (.seq (.draw (⟨some 20,.ld 8 true (.t 3),none⟩::⟨some 21,.call (.c (.fn 5 [])) [(.t 20)],none⟩::⟨some 22,.ld 8 true (.t 3),none⟩::⟨some 23,.fa 4 (.t 3),none⟩::⟨some 24,.ld 1 false (.t 23),none⟩::⟨some 25,.call (.c (.fn 6 [])) [(.t 22),(.t 24)],none⟩::⟨some 8,.al [.int .i64 0,.int .i64 0,.nils,.nils,.nils],none⟩::⟨some 9,.al [.int .i64 0,.nils],none⟩::[]) (⟨none,.st 5 (.t 8) (.t 21),none⟩::⟨none,.st 2 (.t 9) (.t 25),none⟩::[])) (.seq (.draw (⟨some 26,.iaA 2 1 (.t 4) (.c (.int .i64 0)),none⟩::⟨some 27,.ld 1 false (.t 26),none⟩::⟨some 28,.call (.c (.fn 7 [])) [(.t 27)],none⟩::⟨some 29,.iaA 2 1 (.t 4) (.c (.int .i64 1)),none⟩::⟨some 30,.ld 1 false (.t 29),none⟩::[]) (⟨some 31,.call (.c (.fn 7 [])) [(.t 30)],none⟩::⟨some 10,.mv (.t 28),none⟩::⟨some 11,.mv (.t 31),none⟩::[])) (.seq (.reg (⟨some 33,.mv (.t 7),none⟩::⟨some 34,.ld 5 true (.t 8),none⟩::⟨some 35,.ld 2 true (.t 9),none⟩::⟨some 36,.mv (.t 10),none⟩::⟨some 37,.mv (.t 11),none⟩::⟨some 38,.call (.c (.fn 8 [])) [(.t 33),(.t 34),(.t 35),(.t 36),(.t 37)],none⟩::⟨some 32,.mv (.t 38),none⟩::⟨some 39,.ex 0 (.t 32),none⟩::⟨some 40,.ex 1 (.t 32),none⟩::⟨some 12,.mv (.t 39),none⟩::⟨some 13,.mv (.t 40),none⟩::[])) (.seq (.draw (⟨some 42,.mv (.t 7),none⟩::⟨some 43,.ld 5 true (.t 8),none⟩::⟨some 44,.ld 5 true (.t 8),none⟩::⟨some 45,.call (.c (.fn 10 [])) [(.t 44)],none⟩::⟨some 46,.fa 1 (.t 5),none⟩::⟨some 47,.ld 1 false (.t 46),none⟩::⟨some 48,.ld 2 true (.t 9),none⟩::⟨some 49,.call (.c (.fn 11 [])) [(.t 47),(.t 48)],none⟩::⟨some 50,.fa 0 (.t 5),none⟩::⟨some 51,.ld 1 false (.t 50),none⟩::⟨some 52,.bld [.int .i64 0,.int .i64 0,.int .i64 0,.nils,.nils,.nils,.int .i64 0,.int .i64 0,.nils,.nils,.nils,.nils,.int .i64 0,.int .i64 0,.nils,.int .i64 0,.nils,.nils,.nils,.bool false,.int .i64 0] [(0,1,(.t 42)),(1,5,(.t 43)),(6,6,(.t 45)),(12,6,(.t 49)),(19,1,(.c (.bool true))),(20,1,(.t 51))],none⟩::⟨some 53,.call (.c (.fn 9 [])) [(.t 52)],none⟩::⟨some 41,.mv (.t 53),none⟩::⟨some 54,.ex 0 (.t 41),none⟩::⟨some 55,.ex 1 (.t 41),none⟩::⟨some 56,.ex 2 (.t 41),none⟩::⟨some 14,.mv (.t 54),none⟩::⟨some 15,.mv (.t 55),none⟩::[]) (⟨some 16,.mv (.t 56),none⟩::[])) (.seq (.reg (⟨some 57,.call (.c (.fn 12 [])) [(.c (.int .i64 5)),(.c (.int .i64 2)),(.c (.int .i64 1))],none⟩::⟨some 58,.bin .eql (.t 57) (.c (.int .i64 3)),none⟩::⟨some 59,.mv (.t 58),none⟩::⟨some 60,.mv (.t 13),some (59,true)⟩::⟨some 61,.bin .eql (.t 60) (.c (.int .i64 0)),some (59,true)⟩::⟨some 62,.pick (.t 59) (.t 61) (.c (.bool false)),none⟩::⟨some 63,.mv (.t 62),none⟩::⟨some 64,.mv (.t 16),some (63,true)⟩::⟨some 65,.bin .eql (.t 64) (.c (.int .i64 0)),some (63,true)⟩::⟨some 66,.pick (.t 63) (.t 65) (.c (.bool false)),none⟩::⟨some 67,.mv (.t 66),none⟩::⟨some 68,.mv (.t 12),some (67,true)⟩::⟨some 69,.mv (.t 14),some (67,true)⟩::⟨some 70,.call (.c (.fn 13 [])) [(.t 68),(.t 69)],some (67,true)⟩::⟨some 71,.pick (.t 67) (.t 70) (.c (.bool false)),none⟩::⟨some 6,.mv (.t 71),none⟩::[])) .ret)))))))
theorem cd_fretworktop_TopBlocks : Code1 Tryz.prog 3 72 ir_fretworktop_TopBlocks [.t 6]:=⟨Tryz.call3,_,_,Tryz.func3,rfl,by kernel_rfl,by kernel_rfl,by kernel_rfl,by kernel_rfl⟩
set_option maxHeartbeats 8000000 in
theorem fs_TopBlocks (r a b : Int) (l : List Tri) (x y : List (Int × Int)) (f : List Nat) (o : Bool) (c0 c1 : Int) (way form : Int) (ha : 0 <= a /\ a <= 255) (hb : 0 <= b /\ b <= 255) (hl : ∀ x ∈ l,I64 x.2.2) (hx : Ib x) (h0 : 0 <= c0 /\ c0 <= 255) (h1 : 0 <= c1 /\ c1 <= 255) :
    FS Tryz.prog 3 [TK r a b l x y f o,.agg [.int .u8 c0,.int .u8 c1],.agg [.int .i64 way,.int .i64 form]] (.bool true):=by
  refine fs_of_cvc mixed cd_fretworktop_TopBlocks (by simp) ?_
  have k1:=fs_Right13 r
  have k2:=fs_Matrix r a b l x y f o ha hb hl
  have k3:=fs_Vector r a b l x y f o x hb hx
  have k4:=fs_Side c0 h0
  have k5:=fs_Side c1 h1
  have p1:=tmod_bd (a:=c0) (k:=8) h0.1 (by omega)
  have p2:=tmod_bd (a:=c1) (k:=8) h1.1 (by omega)
  obtain ⟨hT,hTi,hTl⟩:=okT_tk (r:=r) ha hb hl
  have hMT:=tkM_T r a b l
  obtain ⟨e1,hV,hvi,hvl⟩:=tkV_V (r:=r) hb hx
  rw [e1] at k3
  have hR:=rgt_R r
  have hWi : ∀ z ∈ (tkV r b x).2,I64 z.2:=fun z hz=>by obtain ⟨n,hn,e⟩:=hvi z hz; rw [e]; exact valR_i hn
  have hWV : ∀ z ∈ (tkV r b x).2,VR (rgt r) z.2:=fun z hz=>by obtain ⟨n,hn,e⟩:=hvi z hz; rw [e]; exact valR_V hR hn
  have hLF : ∀ z ∈ tkL r a b l,FR (rgt r) z.2.2:=fun z hz=>by obtain ⟨n,hn,e⟩:=(hTi z hz).2; rw [e]; exact facR_F hR hn
  have hLi : ∀ z ∈ tkL r a b l,I64 z.2.2:=fun z hz=>(hTi z hz).1
  rw [hMT] at k2
  clear hTi hvi hMT e1
  generalize rgt r = R at *
  generalize tkL r a b l = L at *
  generalize (tkV r b x).2 = W at *
  generalize a.tmod 40 = rows at *
  generalize b.tmod 40 = cols at *
  generalize c0.tmod 8 = u0 at *
  generalize c1.tmod 8 = u1 at *
  have k2' : FS Tryz.prog 5 [TK r a b l x y f o] (MTr rows cols L):=k2
  clear k2
  have q1:=fs_bTimes hR hT hTl hLi hV hvl hWi (p:=u0 + 1) (q:=u1 + 1) (by omega) (by omega) hLF hWV (fun i j _ _=>blM_w hT hLF hWV i j)
  have q2:=fs_dcOf hT
  have q3:=fs_Hold form cols hV (by omega)
  generalize shI form W.length cols = s at *
  obtain ⟨d,q4⟩:=fs_polSums hR hT hTl hLi hV hvl hWi s way
  have hsw : ∀ z ∈ ppS R rows L W,W128 z.2:=fun z hz=>sr_w (ppS_sr hLF hWV z hz)
  have hsl : (ppS R rows L W).length <= 4096:=ppS_len hT.r.1 hT.r.2
  have q5:=fs_SameSums (ppS R rows L W) (ppS R rows L W) (by omega) hsw hsw
  rw [decide_eq_true rfl] at q5
  have q6:=fs_five
  unfold PT at q4
  unfold HV at q3
  generalize ppS R rows L W = S at *
  generalize (jcN (turnT L) (turnT L).length).1 = jc at *
  generalize (jcN (turnT L) (turnT L).length).2 = cp at *
  generalize ((turnT L).map fun x=>x.2.1) = ir at *
  generalize ((turnT L).map fun x=>x.2.2) = num at *
  by_cases hs : s = 2
  . rw [if_pos hs] at *
    repeat' (conv=>whnf); first |(refine Or.inl ⟨by rfl,_,k1,?_⟩) |(refine Or.inl ⟨by rfl,_,k2',?_⟩) |(refine Or.inl ⟨by rfl,_,k3,?_⟩) |(refine Or.inl ⟨by rfl,_,k4,?_⟩) |(refine Or.inl ⟨by rfl,_,k5,?_⟩) |(refine Or.inl ⟨by rfl,_,q1,?_⟩) |(refine Or.inl ⟨by rfl,_,q2,?_⟩) |(refine Or.inl ⟨by rfl,_,q3,?_⟩) |(refine Or.inl ⟨by rfl,_,q4,?_⟩) |(refine Or.inl ⟨by rfl,_,q5,?_⟩) |(refine Or.inl ⟨by rfl,_,q6,?_⟩) |((refine And.intro ?_ ?_; focus ((repeat' (first | exact trivial | exact rfl | (refine And.intro ?_ ?_) | omega | exact Nat.le_of_ble_eq_true rfl | ((conv=>whnf); first | exact trivial | exact rfl | (refine And.intro ?_ ?_)))); done))) | refine Br.tt ?_ | fail
    all_goals exact rfl
  . rw [if_neg hs] at *
    repeat' (conv=>whnf); first |(refine Or.inl ⟨by rfl,_,k1,?_⟩) |(refine Or.inl ⟨by rfl,_,k2',?_⟩) |(refine Or.inl ⟨by rfl,_,k3,?_⟩) |(refine Or.inl ⟨by rfl,_,k4,?_⟩) |(refine Or.inl ⟨by rfl,_,k5,?_⟩) |(refine Or.inl ⟨by rfl,_,q1,?_⟩) |(refine Or.inl ⟨by rfl,_,q2,?_⟩) |(refine Or.inl ⟨by rfl,_,q3,?_⟩) |(refine Or.inl ⟨by rfl,_,q4,?_⟩) |(refine Or.inl ⟨by rfl,_,q5,?_⟩) |(refine Or.inl ⟨by rfl,_,q6,?_⟩) |((refine And.intro ?_ ?_; focus ((repeat' (first | exact trivial | exact rfl | (refine And.intro ?_ ?_) | omega | exact Nat.le_of_ble_eq_true rfl | ((conv=>whnf); first | exact trivial | exact rfl | (refine And.intro ?_ ?_)))); done))) | refine Br.tt ?_ | fail
    all_goals exact rfl
end
end Go.Proofs.YtelbhbadkbcakaaGreat
