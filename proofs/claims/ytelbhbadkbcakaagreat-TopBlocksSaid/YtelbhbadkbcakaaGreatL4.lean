/- A matrix's product, block by block: block.blocks. Block by block: the same sums (plain). -/
import Derived.Test.YtelbhbadkbcakaaGreatL3
namespace Go.Proofs.YtelbhbadkbcakaaGreat
section
open Go.RowKit
attribute [local irreducible] FS FO IT HS
theorem sms_set (l : List (Int × Int)) (i : Nat) (x : Int × Int) : (sms l).set i [.int .i64 x.1,.int .i64 (hi x.2),.int .u64 (lo x.2)] = sms (l.set i x):=by
  simp [sms,List.map_set]
theorem gh {m K a b : Nat} (h : a = b) : some (m * K + a) = some (m * K + b):=by rw [h]
section
variable (R rows cols p q : Int) (L : List Tri) (W : List (Int × Int))
def blS (i j : Int) : List (Int × Int):=ppS R (szI rows p i) (bT rows cols p q i j L) (bW cols q j W)
def blM (i j : Int) : List (Int × Int):=(blS R rows cols p q L W i j).map fun x=>(x.1 + lowI rows p i,x.2)
def entI (j : Int) (n : Nat) : List Ent:=(List.range n).map fun (i : Nat)=>(((i : Int),j),blM R rows cols p q L W i j)
def entJ : Nat -> List Ent
  | 0=>[]
  | j + 1=>entJ j ++ (if bW cols q j W = [] then [] else entI R rows cols p q L W j p.toNat)
end
section
variable {R rows cols p q : Int} {L : List Tri} {W : List (Int × Int)}
theorem entI_len (j : Int) (n : Nat) : (entI R rows cols p q L W j n).length = n:=by simp [entI]
theorem entI_at (j : Int) {n i : Nat} (h : i < n) : (entI R rows cols p q L W j n)[i]? = some (((i : Int),j),blM R rows cols p q L W i j):=by simp [entI,h]
theorem entJ_pre {j : Nat} : ∀ {n : Nat},j <= n -> entJ R rows cols p q L W j <+: entJ R rows cols p q L W n
  | 0, h => by obtain rfl : j = 0 := by omega
               exact List.prefix_refl _
  | n + 1, h => by
    by_cases e : j = n + 1
    . subst e; exact List.prefix_refl _
    . exact (entJ_pre (by omega)).trans (List.prefix_append _ _)
theorem entJ_at {j i n : Nat} (hj : j < n) (hw : bW cols q j W ≠ []) (hi : i < p.toNat) : (entJ R rows cols p q L W n)[(entJ R rows cols p q L W j).length + i]? = some (((i : Int),(j : Int)),blM R rows cols p q L W i j):=by
  obtain ⟨t,ht⟩:=entJ_pre (R:=R) (rows:=rows) (cols:=cols) (p:=p) (q:=q) (L:=L) (W:=W) (show j + 1 <= n by omega)
  rw [<- ht,entJ,if_neg hw,List.append_assoc,List.getElem?_append_right (by omega),Nat.add_sub_cancel_left,List.getElem?_append_left (by rw [entI_len]; exact hi),entI_at _ hi]
theorem entJ_len (n : Nat) : (entJ R rows cols p q L W n).length <= n * p.toNat:=by
  induction n with
  | zero=>simp [entJ]
  | succ n ih =>
    rw [entJ,List.length_append,Nat.succ_mul]
    split
    . simp; omega
    . rw [entI_len]; omega
theorem ppS_in {x : Int × Int} (h : x ∈ ppS R rows L W) : 0 <= x.1 /\ x.1 < rows:=by
  unfold ppS at h
  obtain ⟨i,hi,he⟩:=List.mem_filterMap.1 h
  obtain ⟨s,_,rfl⟩:=Option.map_eq_some_iff.1 he
  have:=askL_mem hi
  exact ⟨Int.natCast_nonneg i,this.1⟩
theorem ppS_len (h0 : 0 <= rows) (h1 : rows <= 4096) : (ppS R rows L W).length <= 4096:=by
  have h2:=sumsL_le (fun i=>rowO R (gt W) (rowL (stB rows L) (L.map fun x=>x.2.1) (L.map fun x=>x.2.2) i)) (askL rows [] true)
  have h3:=List.length_filter_le (fun (i : Nat)=>hasI [] (i : Int) != true) (List.range rows.toNat)
  rw [List.length_range] at h3
  unfold ppS askL at *
  omega
theorem okV_bW {k j : Int} (hV : OkV cols W) (h1 : 1 <= k) (h2 : k <= 8) (h3 : 0 <= j) (h4 : j < k) : OkV (szI cols k j) (bW cols k j W):=by
  have b:=part_in (may_of ⟨hV.n0,hV.n1⟩ h1 h2) h3 h4
  have:=hV.n1
  unfold bW szI
  split
  . exact okV_nil (by omega) (by omega)
  . exact okV_ptI hV b.1 b.2.2 (by omega)
theorem bW_of {k j : Int} {x : Int × Int} (h : x ∈ bW cols k j W) : ∃ y ∈ W,x = (y.1 - lowI cols k j,y.2):=by
  unfold bW at h
  split at h
  . cases h
  . obtain ⟨y,hy,rfl⟩:=List.mem_map.1 h
    exact ⟨y,(List.mem_filter.1 hy).1,rfl⟩
theorem bW_len (k j : Int) : (bW cols k j W).length <= W.length:=by
  unfold bW ptI
  split
  . simp
  . rw [List.length_map]; exact List.length_filter_le _ _
end
noncomputable def ir_block_blocks : IR :=
(.seq (.reg (⟨some 6,.bx (.t 1),none⟩::⟨some 7,.bx (.t 2),none⟩::⟨some 10,.mv (.c (.raw (.map none))),none⟩::⟨some 11,.mv (.c (.int .i64 0)),none⟩::[])) (.seq (.reg (⟨some 19,.oth (opAt Tryz.f24 4),none⟩::⟨some 12,.mv (.t 19),none⟩::[])) (.seq .skip (.seq (.seq (.reg (⟨some 20,.mv (.t 4),none⟩::⟨some 21,.mv (.c (.int .i64 0)),none⟩::[])) (.block 0 (.loop (.seq (.reg (⟨some 22,.bin .lss (.t 21) (.t 20),none⟩::[])) (.seq (.cond (.t 22) .skip (.exit 0)) (.seq (.block 1 (.seq (.reg (⟨some 23,.mv (.t 21),none⟩::⟨some 13,.mv (.t 23),none⟩::[])) (.seq (.reg (⟨some 24,.ld 2 true (.t 7),none⟩::⟨some 25,.mv (.t 4),none⟩::⟨some 26,.mv (.t 13),none⟩::⟨some 27,.call (.c (.fn 53 [])) [(.t 24),(.t 25),(.t 26)],none⟩::⟨some 14,.al [.int .i64 0,.nils],none⟩::⟨none,.st 2 (.t 14) (.t 27),none⟩::[])) (.seq (.seq (.reg (⟨some 28,.fa 1 (.t 14),none⟩::⟨some 29,.ld 1 false (.t 28),none⟩::⟨some 30,.ln (.t 29),none⟩::⟨some 31,.bin .eql (.t 30) (.c (.int .i64 0)),none⟩::[])) (.cond (.t 31) (.exit 1) .skip)) (.seq (.reg (⟨some 32,.mv (.t 3),none⟩::⟨some 33,.mv (.c (.int .i64 0)),none⟩::[])) (.block 2 (.loop (.seq (.reg (⟨some 34,.bin .lss (.t 33) (.t 32),none⟩::[])) (.seq (.cond (.t 34) .skip (.exit 2)) (.seq (.block 3 (.seq (.reg (⟨some 35,.mv (.t 33),none⟩::⟨some 15,.mv (.t 35),none⟩::[])) (.seq (.draw (⟨some 37,.mv (.t 0),none⟩::⟨some 38,.ld 5 true (.t 6),none⟩::⟨some 39,.mv (.t 3),none⟩::⟨some 40,.mv (.t 4),none⟩::⟨some 41,.mv (.t 15),none⟩::⟨some 42,.mv (.t 13),none⟩::⟨some 43,.call (.c (.fn 55 [])) [(.t 38),(.t 39),(.t 40),(.t 41),(.t 42)],none⟩::⟨some 44,.call (.c (.fn 10 [])) [(.t 43)],none⟩::⟨some 45,.ld 2 true (.t 14),none⟩::⟨some 46,.call (.c (.fn 54 [])) [(.t 37),(.t 44),(.t 45),(.c (.nils)),(.c (.bool true))],none⟩::⟨some 36,.mv (.t 46),none⟩::⟨some 47,.ex 0 (.t 36),none⟩::⟨some 48,.ex 1 (.t 36),none⟩::⟨some 16,.mv (.t 47),none⟩::[]) (⟨some 17,.mv (.t 48),none⟩::[])) (.seq (.seq (.reg (⟨some 49,.mv (.t 17),none⟩::⟨some 50,.bin .neq (.t 49) (.c (.int .i64 0)),none⟩::[])) (.cond (.t 50) (.seq (.reg (⟨some 51,.mv (.t 17),none⟩::⟨some 10,.mv (.c (.raw (.map none))),none⟩::⟨some 11,.mv (.t 51),none⟩::[])) .ret) .skip)) (.seq (.seq (.reg (⟨some 52,.mv (.t 16),none⟩::⟨some 53,.ln (.t 52),none⟩::⟨some 54,.mv (.c (.int .i64 0)),none⟩::[])) (.block 4 (.loop (.seq (.reg (⟨some 55,.bin .lss (.t 54) (.t 53),none⟩::[])) (.seq (.cond (.t 55) .skip (.exit 4)) (.seq (.block 5 (.seq (.reg (⟨some 56,.mv (.t 54),none⟩::⟨some 18,.mv (.t 56),none⟩::[])) (.draw (⟨some 57,.mv (.t 16),none⟩::⟨some 58,.mv (.t 18),none⟩::⟨some 59,.ia 3 (.t 57) (.t 58),none⟩::⟨some 60,.fa 0 (.t 59),none⟩::⟨some 61,.ld 1 false (.t 60),none⟩::⟨some 62,.fa 0 (.t 6),none⟩::⟨some 63,.ld 1 false (.t 62),none⟩::⟨some 64,.mv (.t 3),none⟩::⟨some 65,.mv (.t 15),none⟩::⟨some 66,.call (.c (.fn 38 [])) [(.t 63),(.t 64),(.t 65)],none⟩::[]) (⟨some 67,.bin .add (.t 61) (.t 66),none⟩::⟨some 68,.ia 3 (.t 57) (.t 58),none⟩::⟨some 69,.fa 0 (.t 68),none⟩::⟨none,.st 1 (.t 69) (.t 67),none⟩::[])))) (.reg (⟨some 70,.bin .add (.t 54) (.c (.int .i64 1)),none⟩::⟨some 54,.mv (.t 70),none⟩::[])))))))) (.reg (⟨some 71,.mv (.t 12),none⟩::⟨some 72,.mv (.t 15),none⟩::⟨some 73,.mv (.t 13),none⟩::⟨some 74,.bld [.int .i64 0,.int .i64 0] [(0,1,(.t 72)),(1,1,(.t 73))],none⟩::⟨some 75,.mv (.t 16),none⟩::⟨none,.oth (opAt Tryz.f24 73),none⟩::[]))))))) (.reg (⟨some 76,.bin .add (.t 33) (.c (.int .i64 1)),none⟩::⟨some 33,.mv (.t 76),none⟩::[])))))))))))) (.reg (⟨some 77,.bin .add (.t 21) (.c (.int .i64 1)),none⟩::⟨some 21,.mv (.t 77),none⟩::[])))))))) (.seq (.reg (⟨some 78,.mv (.t 12),none⟩::⟨some 10,.mv (.t 78),none⟩::⟨some 11,.mv (.c (.int .i64 0)),none⟩::[])) .ret)))))
theorem cd_block_blocks : Code1 Tryz.prog 24 79 ir_block_blocks [.t 10,.t 11]:=⟨Tryz.call24,_,_,Tryz.func24,rfl,by kernel_rfl,by kernel_rfl,by kernel_rfl,by kernel_rfl⟩
set_option maxHeartbeats 8000000 in
theorem hb_blocks {R rows cols p q : Int} (hR : isR R = true) {L : List Tri} (hT : OkT rows cols L) (hL : L.length <= 60) (hI : ∀ x ∈ L,I64 x.2.2) {W : List (Int × Int)} (hV : OkV cols W) (hWl : W.length <= 60) (hWi : ∀ x ∈ W,I64 x.2) (hp : 1 <= p /\ p <= 8) (hq : 1 <= q /\ q <= 8) :
    HB 24 [.int .i64 R,MTr rows cols L,VC cols W,.int .i64 p,.int .i64 q] (entJ R rows cols p q L W q.toNat):=by
  have hEl:=entJ_len (R:=R) (rows:=rows) (cols:=cols) (p:=p) (q:=q) (L:=L) (W:=W) q.toNat
  have hEl2 : (entJ R rows cols p q L W q.toNat).length <= 64:=Nat.le_trans hEl (Nat.mul_le_mul (show q.toNat <= 8 by omega) (show p.toNat <= 8 by omega))
  refine hb_of_cvc cd_block_blocks (by omega) (by simp) ?_
  obtain ⟨E,hE⟩ : ∃ E,entJ R rows cols p q L W q.toNat = E:=⟨_,rfl⟩
  rw [hE] at hEl2 ⊢
  have hr:=hT.r
  have hc:=hT.c
  repeat' (conv=>whnf); first |(refine fun mb=>?_) | refine And.intro rfl ?_ | fail
  refine ⟨Nat,fun j=>(j : Int) <= q,fun j=>[(0,.int .i64 R),(3,.int .i64 p),(4,.int .i64 q),(6,.ptr 0 0 0 0),(7,.ptr 1 0 0 0),(12,.raw (.map (some mb))),(20,.int .i64 q),(21,.int .i64 (j : Int))],fun j=>[.vars [.int .i64 rows,.int .i64 cols,Z (stB rows L),Z (L.map fun x=>x.2.1),Z (L.map fun x=>x.2.2)],.vars [.int .i64 cols,IL W]],fun j=>some (mb * (E.length + 2) + (entJ R rows cols p q L W j).length),fun j=>q.toNat - j,
    ⟨0,(by omega),⟨rfl,rfl,rfl,rfl,rfl,rfl,rfl,rfl,trivial⟩,⟨⟨rfl,rfl,rfl,rfl,rfl,trivial⟩,⟨rfl,rfl,trivial⟩,trivial⟩,rfl⟩,fun j hj=>?_⟩
  have hj' : (j : Int) <= q:=hj
  by_cases hjq : (j : Int) < q
  . have c1:=fs_Piece hV hV.n1 (by omega) hq.1 hq.2 (Int.natCast_nonneg j) hjq
    have hVb:=okV_bW hV hq.1 hq.2 (Int.natCast_nonneg j) hjq
    have hBl:=bW_len (cols:=cols) (W:=W) q j
    have hBi : ∀ x ∈ bW cols q j W,I64 x.2:=fun x hx=>by
      obtain ⟨y,hy,rfl⟩:=bW_of hx
      exact hWi y hy
    have hsucc : entJ R rows cols p q L W (j + 1) = entJ R rows cols p q L W j ++ (if bW cols q j W = [] then [] else entI R rows cols p q L W j p.toNat):=rfl
    have hat : ∀ i,bW cols q j W ≠ [] -> i < p.toNat -> E[(entJ R rows cols p q L W j).length + i]? = some (((i : Int),(j : Int)),blM R rows cols p q L W i j):=fun i h1 h2=>by rw [<- hE]; exact entJ_at (by omega) h1 h2
    have hil:=its_len (bW cols q j W)
    by_cases hbe : bW cols q j W = []
    . rw [if_pos hbe,List.append_nil] at hsucc
      rw [hbe] at c1 hil
      generalize szI cols q j = zc at *
      repeat' (conv=>whnf); first |(refine Or.inl ⟨by rfl,_,c1,?_⟩) |(refine And.intro (show _ <= _ from Nat.le_of_ble_eq_true rfl) ?_) | refine Br.tt ?_ |(refine Br.dec (fun h=>?_) (fun h=>?_)) <;> try (exfalso; omega) | refine And.intro rfl ?_ |(refine ⟨_,Or.inl ⟨⟨by omega,by omega⟩,rfl⟩,?_⟩) | fail
      refine ⟨j + 1,(show ((j + 1 : Nat) : Int) <= q by omega),(show q.toNat - (j + 1) < q.toNat - j by omega),⟨rfl,rfl,rfl,rfl,rfl,rfl,rfl,rfl,trivial⟩,⟨⟨rfl,rfl,rfl,rfl,rfl,trivial⟩,⟨rfl,rfl,trivial⟩,⟨Nat.le_of_ble_eq_true rfl,rfl,rfl⟩⟩,gh (congrArg List.length hsucc.symm)⟩
    . rw [if_neg hbe] at hsucc
      have hbl : (bW cols q j W).length ≠ 0:=fun h=>hbe (List.eq_nil_of_length_eq_zero h)
      have hel:=congrArg List.length hsucc
      rw [List.length_append,entI_len] at hel
      obtain ⟨B,hB⟩ : ∃ B,bW cols q j W = B:=⟨_,rfl⟩
      rw [hB] at c1 hVb hBl hBi hil hbl
      obtain ⟨zc,hzc⟩ : ∃ z,szI cols q j = z:=⟨_,rfl⟩
      rw [hzc] at c1
      repeat' (conv=>whnf); first |(refine Or.inl ⟨by rfl,_,c1,?_⟩) |(refine And.intro (show _ <= _ from Nat.le_of_ble_eq_true rfl) ?_) |(refine Br.dec (fun h=>?_) (fun h=>?_)) <;> try (exfalso; omega) | refine And.intro rfl ?_ | fail
      refine ⟨Nat,fun i=>(i : Int) <= p,fun i=>[(0,.int .i64 R),(3,.int .i64 p),(4,.int .i64 q),(6,.ptr 0 0 0 0),(7,.ptr 1 0 0 0),(12,.raw (.map (some mb))),(13,.int .i64 (j : Int)),(14,.ptr 2 0 0 0),(20,.int .i64 q),(21,.int .i64 (j : Int)),(32,.int .i64 p),(33,.int .i64 (i : Int))],fun i=>[.vars [.int .i64 rows,.int .i64 cols,Z (stB rows L),Z (L.map fun x=>x.2.1),Z (L.map fun x=>x.2.2)],.vars [.int .i64 cols,IL W],.vars [.int .i64 zc,IL B]],fun i=>some (mb * (E.length + 2) + ((entJ R rows cols p q L W j).length + i)),fun i=>p.toNat - i,
        ⟨0,(by omega),⟨rfl,rfl,rfl,rfl,rfl,rfl,rfl,rfl,rfl,rfl,rfl,rfl,trivial⟩,⟨⟨rfl,rfl,rfl,rfl,rfl,trivial⟩,⟨rfl,rfl,trivial⟩,⟨rfl,rfl,trivial⟩,trivial⟩,rfl⟩,fun i hi0=>?_⟩
      have hi' : (i : Int) <= p:=hi0
      by_cases hip : (i : Int) < p
      . have hg : GridI p q (i : Int) (j : Int):=⟨hp.1,hp.2,hq.1,hq.2,Int.natCast_nonneg i,hip,Int.natCast_nonneg j,hjq⟩
        have c2:=fs_bCut hT hg
        have hTb:=okT_blk hT hg
        have c3:=fs_dcOf hTb
        rw [hzc] at c2 hTb c3
        have hTl : (bT rows cols p q i j L).length <= 60:=Nat.le_trans (cutN_le (low_bd rows p i).1 _) hL
        have hTi : ∀ x ∈ bT rows cols p q i j L,I64 x.2.2:=fun x hx=>hI (lowI rows p i + x.1,lowI cols q j + x.2.1,x.2.2) ((cutN_in hT (low_bd rows p i).1 (p:=x.1) (q:=x.2.1) (v:=x.2.2) _).1 hx).2.2.2.2
        rw [hzc] at hVb
        have c4:=fo_pushed hR hTb hTl hTi hVb (by omega) hBi
        have c5:=fs_Low rows p i
        have hlow:=part_in (may_of hT.r hp.1 hp.2) (Int.natCast_nonneg i) hip
        have hz0 : szI rows p i <= 4096:=by unfold szI; omega
        have hz1 : 0 <= szI rows p i:=by unfold szI; omega
        have hS : ∀ x ∈ ppS R (szI rows p i) (bT rows cols p q i j L) B,0 <= x.1 /\ x.1 < szI rows p i:=fun x hx=>ppS_in hx
        have hSl : (ppS R (szI rows p i) (bT rows cols p q i j L) B).length <= 4096:=ppS_len hz1 hz0
        have hget:=hat i hbe (by omega)
        have hM : blM R rows cols p q L W i j = (ppS R (szI rows p i) (bT rows cols p q i j L) B).map fun x=>(x.1 + lowI rows p i,x.2):=by unfold blM blS; rw [hB]
        rw [hM] at hget
        generalize ppS R (szI rows p i) (bT rows cols p q i j L) B = S at *
        generalize bT rows cols p q i j L = T at *
        generalize (jcN (turnT T) (turnT T).length).1 = jc at *
        generalize (jcN (turnT T) (turnT T).length).2 = cp at *
        generalize ((turnT T).map fun x=>x.2.1) = ir at *
        generalize ((turnT T).map fun x=>x.2.2) = num at *
        generalize szI rows p i = zr at *
        obtain ⟨d,hd⟩ : ∃ d,lowI rows p i = d:=⟨_,rfl⟩
        rw [hd] at c5 hlow hget
        have hd0 : 0 <= d /\ d <= 4096:=by omega
        have hsl:=sms_len S
        repeat' (conv=>whnf); first |(refine Or.inl ⟨by rfl,_,c2,?_⟩) |(refine Or.inl ⟨by rfl,_,c3,?_⟩) |(refine Or.inr (Or.inl ⟨by rfl,_,_,c4,?_⟩)) |(refine And.intro (show _ <= _ from Nat.le_of_ble_eq_true rfl) ?_) | refine Br.ff ?_ |(refine Br.dec (fun h=>?_) (fun h=>?_)) <;> try (exfalso; omega) | refine And.intro rfl ?_ | fail
        refine ⟨Nat,fun l=>l <= S.length,fun l=>[(0,.int .i64 R),(3,.int .i64 p),(4,.int .i64 q),(6,.ptr 0 0 0 0),(7,.ptr 1 0 0 0),(12,.raw (.map (some mb))),(13,.int .i64 (j : Int)),(14,.ptr 2 0 0 0),(15,.int .i64 (i : Int)),(16,.osl 3 3 0 S.length),(20,.int .i64 q),(21,.int .i64 (j : Int)),(32,.int .i64 p),(33,.int .i64 (i : Int)),(53,.int .i64 (S.length : Int)),(54,.int .i64 (l : Int))],fun l=>[.vars [.int .i64 rows,.int .i64 cols,Z (stB rows L),Z (L.map fun x=>x.2.1),Z (L.map fun x=>x.2.2)],.vars [.int .i64 cols,IL W],.vars [.int .i64 zc,IL B],.arr 3 (sms (mapK (fun x=>(x.1 + d,x.2)) S l))],fun l=>some (mb * (E.length + 2) + ((entJ R rows cols p q L W j).length + i)),fun l=>S.length - l,
          ⟨0,(by omega),⟨rfl,rfl,rfl,rfl,rfl,rfl,rfl,rfl,rfl,rfl,rfl,rfl,rfl,rfl,rfl,rfl,trivial⟩,⟨⟨rfl,rfl,rfl,rfl,rfl,trivial⟩,⟨rfl,rfl,trivial⟩,⟨rfl,rfl,trivial⟩,?_,trivial⟩,rfl⟩,fun l hl0=>?_⟩
        . exact congrArg (fun l=>Blk.arr 3 (sms l)) (mapK_zero _ S).symm
        have hl' : l <= S.length:=hl0
        have hml:=mapK_len (fun x=>(x.1 + d,x.2)) S l
        have hmsl:=sms_len (mapK (fun x=>(x.1 + d,x.2)) S l)
        by_cases hlS : l < S.length
        . obtain ⟨x,hx⟩ : ∃ x,S[l]? = some x:=⟨_,List.getElem?_eq_getElem hlS⟩
          have hxb:=hS x (List.mem_of_getElem? hx)
          have hxm : (sms (mapK (fun x=>(x.1 + d,x.2)) S l))[0 + (l : Int).toNat]? = some [.int .i64 x.1,.int .i64 (hi x.2),.int .u64 (lo x.2)]:=by
            rw [show 0 + (l : Int).toNat = l by omega,sms,List.getElem?_map,mapK_at hx]; rfl
          repeat' (conv=>whnf); first |(refine Or.inl ⟨by rfl,_,c5,?_⟩) |(refine ⟨_,hxm,?_⟩) |(refine And.intro (show _ <= _ from Nat.le_of_ble_eq_true rfl) ?_) |(refine Br.dec (fun h=>?_) (fun h=>?_)) <;> try (exfalso; omega) | refine And.intro rfl ?_ |(refine And.intro (by omega) ?_) |(refine ⟨_,Or.inl ⟨⟨by omega,by omega⟩,rfl⟩,?_⟩) | fail
          refine ⟨l + 1,(show l + 1 <= S.length by omega),(show S.length - (l + 1) < S.length - l by omega),⟨rfl,rfl,rfl,rfl,rfl,rfl,rfl,rfl,rfl,rfl,rfl,rfl,rfl,rfl,rfl,rfl,trivial⟩,⟨⟨rfl,rfl,rfl,rfl,rfl,trivial⟩,⟨rfl,rfl,trivial⟩,⟨rfl,rfl,trivial⟩,?_,trivial⟩,rfl⟩
          show Blk.arr 3 ((sms (mapK (fun x=>(x.1 + d,x.2)) S l)).set (0 + (l : Int).toNat) [.int .i64 (x.1 + d),.int .i64 (hi x.2),.int .u64 (lo x.2)]) = _
          rw [show 0 + (l : Int).toNat = l by omega,sms_set (x:=(x.1 + d,x.2)),mapK_set (f:=fun x=>(x.1 + d,x.2)) hx]
        . obtain rfl : l = S.length:=by omega
          have hSm : (S.map fun x=>(x.1 + d,x.2)).length = S.length:=List.length_map _
          have hSm : (S.map fun x=>(x.1 + d,x.2)).length = S.length:=List.length_map _
          repeat' (conv=>whnf); first |(refine And.intro (show _ <= _ from Nat.le_of_ble_eq_true rfl) ?_) |(refine Br.dec (fun h=>?_) (fun h=>?_)) <;> try (exfalso; omega) | refine And.intro rfl ?_ | fail
          refine ⟨mb,(entJ R rows cols p q L W j).length + i,i,j,S.map (fun x=>(x.1 + d,x.2)),3,rfl,hget,(by unfold I64; omega),(by unfold I64; omega),rfl,?_,?_,rfl,?_⟩
          . rw [hSm]; rfl
          . show some (Blk.arr 3 (sms (mapK (fun x=>(x.1 + d,x.2)) S S.length))) = _
            rw [mapK_all]
          . repeat' (conv=>whnf); first | refine And.intro rfl ?_ |(refine ⟨_,Or.inl ⟨⟨by omega,by omega⟩,rfl⟩,?_⟩) | fail
            refine ⟨i + 1,(show ((i + 1 : Nat) : Int) <= p by omega),(show p.toNat - (i + 1) < p.toNat - i by omega),⟨rfl,rfl,rfl,rfl,rfl,rfl,rfl,rfl,rfl,rfl,rfl,rfl,trivial⟩,⟨⟨rfl,rfl,rfl,rfl,rfl,trivial⟩,⟨rfl,rfl,trivial⟩,⟨rfl,rfl,trivial⟩,⟨Nat.le_of_ble_eq_true rfl,rfl,rfl⟩⟩,rfl⟩
      . obtain rfl : i = p.toNat:=by omega
        repeat' (conv=>whnf); first |(refine Br.dec (fun h=>?_) (fun h=>?_)) <;> try (exfalso; omega) | refine And.intro rfl ?_ |(refine ⟨_,Or.inl ⟨⟨by omega,by omega⟩,rfl⟩,?_⟩) | fail
        refine ⟨j + 1,(show ((j + 1 : Nat) : Int) <= q by omega),(show q.toNat - (j + 1) < q.toNat - j by omega),⟨rfl,rfl,rfl,rfl,rfl,rfl,rfl,rfl,trivial⟩,⟨⟨rfl,rfl,rfl,rfl,rfl,trivial⟩,⟨rfl,rfl,trivial⟩,⟨Nat.le_of_ble_eq_true rfl,rfl,rfl⟩⟩,gh hel.symm⟩
  . obtain rfl : j = q.toNat:=by omega
    repeat' (conv=>whnf); first |(refine Br.dec (fun h=>?_) (fun h=>?_)) <;> try (exfalso; omega) | refine And.intro rfl ?_ | fail
    exact ⟨mb,rfl,gh (congrArg List.length hE)⟩
end
section
open Go.RowKit
attribute [local irreducible] FS FO IT HS
theorem radd_as {r s p t : Int} (hr : isR r = true) (hs : SR r s) (ht : SR r t) : rAdd r (rAdd r s p) t = rAdd r s (rAdd r p t):=by
  have h:=add_swap s (rZero r) p t hr
  rw [(add_zero hs).1,(add_zero ht).2] at h
  exact h.symm
theorem acc_fold {r : Int} (hr : isR r = true) {g : Int -> Option Int} (hg : ∀ c v,g c = some v -> VR r v) : ∀ (seg : List (Int × Int)),(∀ x ∈ seg,FR r x.2) -> ∀ (o o' : Option Int),(∀ s,o = some s -> SR r s) -> accG r o (seg.foldl (rowF r g) o') = seg.foldl (rowF r g) (accG r o o')
  | [],_,_,_,_=>rfl
  | x :: seg, hf, o, o', ho => by
    rw [List.foldl_cons,List.foldl_cons,acc_fold hr hg seg (fun y hy=>hf y (List.mem_cons_of_mem _ hy)) o _ ho]
    congr 1
    unfold rowF
    cases hx : g x.1 with
    | none=>rfl
    | some v =>
      have hm:=mul_sr (hf x List.mem_cons_self) (hg _ _ hx)
      cases o' with
      | none=>rfl
      | some t =>
        cases o with
        | none=>rfl
        | some s =>
          show some (rAdd r s (rAdd r t _)) = some (rAdd r (rAdd r s t) _)
          rw [radd_as hr (ho s rfl) hm]
theorem row_sr {r : Int} {g : Int -> Option Int} (hg : ∀ c v,g c = some v -> VR r v) : ∀ (seg : List (Int × Int)),(∀ x ∈ seg,FR r x.2) -> ∀ o : Option Int,(∀ s,o = some s -> SR r s) -> ∀ s,seg.foldl (rowF r g) o = some s -> SR r s
  | [],_,_,ho=>ho
  | x :: seg, hf, o, ho => row_sr hg seg (fun y hy => hf y (List.mem_cons_of_mem _ hy)) _ fun s hs => by
    unfold rowF at hs
    cases hx : g x.1 with
    | none=>rw [hx] at hs; exact ho s hs
    | some v =>
      rw [hx] at hs
      have hm:=mul_sr (hf x List.mem_cons_self) (hg _ _ hx)
      cases o with
      | none=>cases hs; exact hm
      | some t=>cases hs; exact add_sr (ho t rfl) hm
theorem filt_cut {a b : Int} (hab : a <= b) : ∀ {l : List (Int × Int)},Up l -> l.filter (fun x=>decide (x.1 < b)) = l.filter (fun x=>decide (x.1 < a)) ++ l.filter (fun x=>decide (a <= x.1) && decide (x.1 < b))
  | [],_=>rfl
  | x :: l, hu => by
    have ih:=filt_cut hab hu.tail
    have hh:=hu.head
    by_cases h : x.1 < a
    . rw [List.filter_cons_of_pos (by simp; omega),List.filter_cons_of_pos (by simp; omega),List.filter_cons_of_neg (by simp; omega),ih,List.cons_append]
    . have e : l.filter (fun x=>decide (x.1 < a)) = []:=List.filter_eq_nil_iff.2 fun y hy=>by have:=hh y hy; simp; omega
      rw [e,List.nil_append] at ih
      rw [List.filter_cons_of_neg (p:=fun (x : Int × Int)=>decide (x.1 < a)) (by simp; omega),e,List.nil_append]
      by_cases h2 : x.1 < b
      . rw [List.filter_cons_of_pos (by simp; omega),List.filter_cons_of_pos (by simp; omega),ih]
      . rw [List.filter_cons_of_neg (by simp; omega),List.filter_cons_of_neg (by simp; omega),ih]
section
variable {R rows cols p q : Int} {L : List Tri} {W : List (Int × Int)}
theorem bW_is (k j : Int) : bW cols k j W = ptI (lowI cols k j) (lowI cols k (j + 1)) W:=by
  unfold bW
  split
  . rename_i h
    unfold ptI
    rw [List.filter_eq_nil_iff.2 fun x _=>by simp; omega]; rfl
  . rfl
theorem hasI_no (k : Int) : (hasI [] k != true) = true:=by
  have : hasI [] k = false:=by unfold hasI hasN; simp
  rw [this]; rfl
theorem gt_ppS (k : Int) : Up (ppS R rows L W) /\ gt (ppS R rows L W) k = if 0 <= k /\ k < rows then rowO R (gt W) (colT L k) else none:=by
  obtain ⟨s1,s2⟩:=sums_ask (R:=fun i=>rowO R (gt W) (rowL (stB rows L) (L.map fun x=>x.2.1) (L.map fun x=>x.2.2) i)) (n:=rows) (g:=[]) (o:=true)
  refine ⟨s1,?_⟩
  unfold ppS
  rw [s2,if_pos (hasI_no k)]
  split
  . rename_i h
    rw [rowL_T (by omega),Int.toNat_of_nonneg h.1]
  . rfl
theorem gt_shift (d k : Int) : ∀ l : List (Int × Int),gt (l.map fun x=>(x.1 + d,x.2)) k = gt l (k - d)
  | []=>rfl
  | x :: l => by
    rw [List.map_cons,gt_cons,gt_cons,gt_shift d k l]
    by_cases h : x.1 = k - d
    . rw [if_pos h,if_pos (show x.1 + d = k by omega)]
    . rw [if_neg h,if_neg (show ¬ x.1 + d = k by omega)]
theorem colT_blk (hT : OkT rows cols L) {i j k : Int} (h : GridI p q i j) (h0 : lowI rows p i <= k) (h1 : k < lowI rows p (i + 1)) : colT (bT rows cols p q i j L) (k - lowI rows p i) = ptI (lowI cols q j) (lowI cols q (j + 1)) (colT L k):=by
  have hB:=okT_blk hT h
  have u0:=colT_up hT.rise (fun y hy=>(hT.inr y hy).1) k
  have u1:=colT_up hB.rise (fun y hy=>(hB.inr y hy).1) (k - lowI rows p i)
  have hlo:=(low_bd rows p i).1
  have hlc:=(low_bd cols q j).1
  refine up_ext u1 (up_ptI u0) fun c=>?_
  rw [gt_ptI u0]
  by_cases hc : 0 <= c /\ c < lowI cols q (j + 1) - lowI cols q j
  . rw [if_pos hc]
    have:=colT_cut hT hlo (c0:=lowI cols q j) (c1:=lowI cols q (j + 1)) (k:=k - lowI rows p i) (n:=(szI rows p i).toNat) (by omega) (by unfold szI; omega) c hc.1 hc.2
    rw [show lowI rows p i + (k - lowI rows p i) = k by omega] at this
    exact this
  . rw [if_neg hc]
    refine gt_none fun x hx e=>?_
    obtain ⟨y,hy,rfl⟩:=colT_of hx
    have:=(cutN_in hT hlo (p:=y.1) (q:=y.2.1) (v:=y.2.2) _).1 hy
    simp only at e
    omega
theorem gt_blM (hT : OkT rows cols L) (hV : OkV cols W) {i j : Int} (h : GridI p q i j) (k : Int) : Up (blM R rows cols p q L W i j) /\ gt (blM R rows cols p q L W i j) k = if lowI rows p i <= k /\ k < lowI rows p (i + 1) then ((colT L k).filter fun x=>decide (lowI cols q j <= x.1) && decide (x.1 < lowI cols q (j + 1))).foldl (rowF R (gt W)) none else none:=by
  obtain ⟨s1,s2⟩:=gt_ppS (R:=R) (rows:=szI rows p i) (L:=bT rows cols p q i j L) (W:=bW cols q j W) (k - lowI rows p i)
  refine ⟨?_,?_⟩
  . unfold blM blS Up
    rw [List.pairwise_map]
    exact List.Pairwise.imp (fun {a b} h=>by have h' : a.1 < b.1:=h; show a.1 + _ < b.1 + _; omega) s1
  unfold blM blS
  rw [gt_shift,s2]
  by_cases hk : lowI rows p i <= k /\ k < lowI rows p (i + 1)
  . rw [if_pos hk,if_pos (by unfold szI; omega),colT_blk hT h hk.1 hk.2,bW_is]
    unfold rowO
    rw [show ptI (lowI cols q j) (lowI cols q (j + 1)) (colT L k) = ((colT L k).filter fun x=>decide (lowI cols q j <= x.1) && decide (x.1 < lowI cols q (j + 1))).map fun x=>(x.1 - lowI cols q j,x.2) from rfl,List.foldl_map]
    refine join_swap.foldl_same _ fun o x hx=>?_
    have hx2:=(List.mem_filter.1 hx).2
    rw [Bool.and_eq_true,decide_eq_true_eq,decide_eq_true_eq] at hx2
    unfold rowF
    simp only
    rw [gt_ptI hV.up,if_pos (by omega),show lowI cols q j + (x.1 - lowI cols q j) = x.1 by omega]
  . rw [if_neg hk,if_neg (by unfold szI; omega)]
def bpJ (R rows cols p q : Int) (L : List Tri) (W : List (Int × Int)) (i : Int) : Nat -> List (List (Int × Int))
  | 0=>[]
  | j + 1=>bpJ R rows cols p q L W i j ++ [blM R rows cols p q L W i j]
def bpI (R rows cols p q : Int) (L : List Tri) (W : List (Int × Int)) : Nat -> List (List (Int × Int))
  | 0=>[]
  | i + 1=>bpI R rows cols p q L W i ++ bpJ R rows cols p q L W i q.toNat
theorem bpJ_mem {i : Int} {l : List (Int × Int)} : ∀ {n : Nat},l ∈ bpJ R rows cols p q L W i n -> ∃ j : Nat,j < n /\ l = blM R rows cols p q L W i j
  | 0,h=>by cases h
  | n + 1, h => by
    rcases List.mem_append.1 h with h | h
    . obtain ⟨j,hj,e⟩:=bpJ_mem h
      exact ⟨j,by omega,e⟩
    . exact ⟨n,by omega,List.mem_singleton.1 h⟩
theorem bpI_mem {l : List (Int × Int)} : ∀ {m : Nat},l ∈ bpI R rows cols p q L W m -> ∃ i j : Nat,i < m /\ j < q.toNat /\ l = blM R rows cols p q L W i j
  | 0,h=>by cases h
  | m + 1, h => by
    rcases List.mem_append.1 h with h | h
    . obtain ⟨i,j,hi,hj,e⟩:=bpI_mem h
      exact ⟨i,j,by omega,hj,e⟩
    . obtain ⟨j,hj,e⟩:=bpJ_mem h
      exact ⟨m,j,by omega,hj,e⟩
theorem bpJ_len (i : Int) : ∀ n : Nat,(bpJ R rows cols p q L W i n).length = n
  | 0=>rfl
  | n + 1=>by rw [bpJ,List.length_append,bpJ_len i n]; rfl
theorem bpI_len : ∀ m : Nat,(bpI R rows cols p q L W m).length = m * q.toNat
  | 0=>by simp [bpI]
  | m + 1=>by rw [bpI,List.length_append,bpI_len m,bpJ_len,Nat.succ_mul]
section
variable (hR : isR R = true) (hT : OkT rows cols L) (hV : OkV cols W) (hp : 1 <= p /\ p <= 8) (hq : 1 <= q /\ q <= 8) (hL : ∀ x ∈ L,FR R x.2.2) (hW : ∀ x ∈ W,VR R x.2)
include hT hV hp hq
theorem bp_other {i : Nat} (hi : (i : Int) < p) {k : Int} (h : ¬ (lowI rows p i <= k /\ k < lowI rows p (i + 1))) : ∀ (n : Nat),(n : Int) <= q -> ∀ o,(bpJ R rows cols p q L W i n).foldl (fun o l=>accG R o (gt l k)) o = o
  | 0,_,_=>rfl
  | n + 1, hn, o => by
    rw [bpJ,List.foldl_append,bp_other hi h n (by omega) o,List.foldl_cons,(gt_blM hT hV ⟨hp.1,hp.2,hq.1,hq.2,Int.natCast_nonneg i,hi,Int.natCast_nonneg n,by omega⟩ k).2,if_neg h]
    rfl
include hR hL hW
theorem bp_this {i : Nat} (hi : (i : Int) < p) {k : Int} (h : lowI rows p i <= k /\ k < lowI rows p (i + 1)) : ∀ (n : Nat),(n : Int) <= q -> (bpJ R rows cols p q L W i n).foldl (fun o l=>accG R o (gt l k)) none = ((colT L k).filter fun x=>decide (x.1 < lowI cols q n)).foldl (rowF R (gt W)) none
  | 0, _ => by
    have e : lowI cols q ((0 : Nat) : Int) = 0:=low_zero (may_of hT.c hq.1 hq.2)
    rw [e,List.filter_eq_nil_iff.2 fun x hx=>by
      obtain ⟨y,hy,rfl⟩:=colT_of hx
      have:=(hT.inr y hy).2.2.1
      simp; omega]
    rfl
  | n + 1, hn => by
    have hgV : ∀ c v,gt W c = some v -> VR R v:=fun c v hv=>hW _ (gt_mem hv)
    have hf : ∀ (P : Int × Int -> Bool),∀ x ∈ (colT L k).filter P,FR R x.2:=fun P x hx=>by
      obtain ⟨y,hy,rfl⟩:=colT_of (List.mem_filter.1 hx).1
      exact hL y hy
    rw [bpJ,List.foldl_append,bp_this hi h n (by omega),List.foldl_cons,(gt_blM hT hV ⟨hp.1,hp.2,hq.1,hq.2,Int.natCast_nonneg i,hi,Int.natCast_nonneg n,by omega⟩ k).2,if_pos h,List.foldl_nil,
      acc_fold hR hgV _ (hf _) _ _ (row_sr hgV _ (hf _) _ fun s hs=>by cases hs)]
    have hm : lowI cols q n <= lowI cols q ((n : Int) + 1):=low_mono (may_of hT.c hq.1 hq.2) (by omega)
    rw [show (((n + 1 : Nat) : Int)) = (n : Int) + 1 by omega,filt_cut hm (colT_up hT.rise (fun y hy=>(hT.inr y hy).1) k),List.foldl_append]
    congr 1
theorem bp_all (k : Int) : ∀ (m : Nat),(m : Int) <= p -> (bpI R rows cols p q L W m).foldl (fun o l=>accG R o (gt l k)) none = if 0 <= k /\ k < lowI rows p m then rowO R (gt W) (colT L k) else none
  | 0, _ => by
    have e : lowI rows p ((0 : Nat) : Int) = 0:=low_zero (may_of hT.r hp.1 hp.2)
    rw [e,if_neg (by omega)]; rfl
  | m + 1, hm => by
    have hb:=low_bd rows p m
    have hmono : lowI rows p m <= lowI rows p ((m : Int) + 1):=low_mono (may_of hT.r hp.1 hp.2) (by omega)
    rw [bpI,List.foldl_append,bp_all k m (by omega),show (((m + 1 : Nat) : Int)) = (m : Int) + 1 by omega]
    by_cases h : lowI rows p m <= k /\ k < lowI rows p ((m : Int) + 1)
    . rw [if_neg (by omega),if_pos (by omega),bp_this hR hT hV hp hq hL hW (by omega) h q.toNat (by omega)]
      have e : lowI cols q ((q.toNat : Nat) : Int) = cols:=low_big (may_of hT.c hq.1 hq.2) (by omega)
      rw [e,List.filter_eq_self.2 fun x hx=>by
        obtain ⟨y,hy,rfl⟩:=colT_of hx
        have:=(hT.inr y hy).2.2.2
        simp; omega]
      rfl
    . rw [bp_other hT hV hp hq (by omega) h q.toNat (by omega)]
      by_cases h2 : 0 <= k /\ k < lowI rows p m
      . rw [if_pos h2,if_pos (by omega)]
      . rw [if_neg h2,if_neg (by omega)]
theorem blocks_sum : mrg R (bpI R rows cols p q L W p.toNat) = ppS R rows L W:=by
  have hup : ∀ l ∈ bpI R rows cols p q L W p.toNat,Up l:=fun l hl=>by
    obtain ⟨i,j,hi,hj,rfl⟩:=bpI_mem hl
    exact (gt_blM hT hV ⟨hp.1,hp.2,hq.1,hq.2,Int.natCast_nonneg i,by omega,Int.natCast_nonneg j,by omega⟩ 0).1
  obtain ⟨m1,m2⟩:=mrg_is R hup
  refine up_ext m1 (gt_ppS 0).1 fun k=>?_
  rw [m2,(gt_ppS k).2]
  unfold colD
  rw [range_fold (fun o (l : List (Int × Int))=>accG R o (gt l k)) [] _ none,bp_all hR hT hV hp hq hL hW k p.toNat (by omega)]
  have e : lowI rows p ((p.toNat : Nat) : Int) = rows:=low_big (may_of hT.r hp.1 hp.2) (by omega)
  rw [e]
end
end
end
end Go.Proofs.YtelbhbadkbcakaaGreat
