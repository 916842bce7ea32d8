/- A matrix, triple by triple. A matrix, built of triples. -/
import Derived.Test.YtelbhbadkbcakaaGreatJ3
namespace Go.Proofs.YtelbhbadkbcakaaGreat
section
open Go.RowKit
attribute [local irreducible] FS FO IT HS
structure OkT (rows cols : Int) (L : List Tri) : Prop where
  r : 0 <= rows /\ rows <= 4096
  c : 0 <= cols /\ cols <= 4096
  rise : Rise L
  inr : ∀ x ∈ L,0 <= x.1 /\ x.1 < rows /\ 0 <= x.2.1 /\ x.2.1 < cols
  len : L.length <= 65536
def MTr (rows cols : Int) (L : List Tri) : SV:=MX rows cols (stB rows L) (L.map fun x=>x.2.1) (L.map fun x=>x.2.2)
theorem OkT.ok {rows cols : Int} {L : List Tri} (h : OkT rows cols L) : OkM rows cols (stB rows L) (L.map fun x=>x.2.1) (L.map fun x=>x.2.2):=okM_bM h.r h.c h.rise h.inr h.len _ (by simp)
theorem fs_Tsure {rows cols : Int} {L : List Tri} (h : OkT rows cols L) : FS Tryz.prog 46 [MTr rows cols L] (MTr rows cols L):=by
  have:=fs_csure rows cols (stB rows L) (L.map fun x=>x.2.1) (L.map fun x=>x.2.2)
  rw [h.ok.mS] at this
  exact this
def ptL (L : List Tri) (i : Nat) : List Tri:=(L.take (cntB L (i + 1))).drop (cntB L i)
theorem pt_length (L : List Tri) (i : Nat) : (ptL L i).length = cntB L (i + 1) - cntB L i:=by
  have:=cntB_le L (i + 1)
  unfold ptL; simp; omega
theorem pt_at {L : List Tri} {i k : Nat} (hk : k < cntB L (i + 1) - cntB L i) : (ptL L i)[k]? = L[cntB L i + k]?:=by
  unfold ptL
  rw [List.getElem?_drop,List.getElem?_take_of_lt (by omega)]
theorem pt_row {L : List Tri} (hr : Rise L) {i k : Nat} {x : Tri} (_h0 : 0 <= x.1) (hk : k < cntB L (i + 1) - cntB L i) (hx : L[cntB L i + k]? = some x) : x.1 = (i : Int):=by
  have h1:=rise_cnt hr i _ x hx
  have h2:=rise_cnt hr (i + 1) _ x hx
  have h3 : ¬ x.1 < (i : Int):=fun h=>by have:=h1.1 h; omega
  have h4 : x.1 < ((i + 1 : Nat) : Int):=h2.2 (by omega)
  omega
def ir_csr_part : IR :=
(.seq (.reg (⟨some 2,.bx (.t 0),none⟩::⟨some 4,.mv (.c (.nils)),none⟩::⟨some 5,.mv (.c (.nils)),none⟩::[])) (.seq (.draw (⟨some 8,.fa 2 (.t 2),none⟩::⟨some 9,.ld 1 false (.t 8),none⟩::⟨some 10,.mv (.t 1),none⟩::⟨some 11,.ia 1 (.t 9) (.t 10),none⟩::⟨some 12,.ld 1 false (.t 11),none⟩::⟨some 13,.fa 2 (.t 2),none⟩::⟨some 14,.ld 1 false (.t 13),none⟩::⟨some 15,.mv (.t 1),none⟩::⟨some 16,.bin .add (.t 15) (.c (.int .i64 1)),none⟩::⟨some 17,.ia 1 (.t 14) (.t 16),none⟩::⟨some 18,.ld 1 false (.t 17),none⟩::⟨some 6,.mv (.t 12),none⟩::[]) (⟨some 7,.mv (.t 18),none⟩::[])) (.seq (.draw (⟨some 19,.fa 3 (.t 2),none⟩::⟨some 20,.ld 1 false (.t 19),none⟩::⟨some 21,.mv (.t 6),none⟩::⟨some 22,.mv (.t 7),none⟩::⟨some 23,.mv (.t 7),none⟩::⟨some 24,.sl 1 (.t 20) (some (.t 21)) (some (.t 22)) (some (.t 23)),none⟩::⟨some 25,.fa 4 (.t 2),none⟩::⟨some 26,.ld 1 false (.t 25),none⟩::⟨some 27,.mv (.t 6),none⟩::⟨some 28,.mv (.t 7),none⟩::⟨some 29,.mv (.t 7),none⟩::⟨some 30,.sl 1 (.t 26) (some (.t 27)) (some (.t 28)) (some (.t 29)),none⟩::⟨some 4,.mv (.t 24),none⟩::[]) (⟨some 5,.mv (.t 30),none⟩::[])) .ret)))
theorem cd_csr_part : Code1 Tryz.prog 67 31 ir_csr_part [.t 4,.t 5]:=⟨Tryz.call67,_,_,Tryz.func67,rfl,by kernel_rfl,by kernel_rfl,by kernel_rfl,by kernel_rfl⟩
theorem fs_part {rows cols : Int} {L : List Tri} (h : OkT rows cols L) (i : Nat) (hi : (i : Int) < rows) : FS Tryz.prog 67 [MTr rows cols L,.int .i64 (i : Int)] (.tup [Z ((ptL L i).map fun x=>x.2.1),Z ((ptL L i).map fun x=>x.2.2)]):=by
  refine fs_of_cvc mixed cd_csr_part (by simp) ?_
  have hsl:=stB_len rows L
  have hzs:=zs_len (stB rows L)
  have hz1:=zs_len (L.map fun x=>x.2.1)
  have hz2:=zs_len (L.map fun x=>x.2.2)
  have hl1 : (L.map fun x=>x.2.1).length = L.length:=by simp
  have hl2 : (L.map fun x=>x.2.2).length = L.length:=by simp
  have g1:=stB_get (rows:=rows) (L:=L) (i:=i) (by omega)
  have g2:=stB_get (rows:=rows) (L:=L) (i:=i + 1) (by omega)
  have hr:=h.r
  have hm:=cntB_mono L (show i <= i + 1 by omega)
  have hcl:=cntB_le L (i + 1)
  repeat' (conv=>whnf); first |(refine zs_go (i:=i) (by omega) g1 ?_) |(refine zs_go (i:=i + 1) (by omega) g2 ?_) | refine And.intro rfl ?_ |(refine And.intro (by omega) ?_) |(refine ⟨_,Or.inl ⟨⟨by omega,by omega⟩,rfl⟩,?_⟩) | fail
  have e : ∀ f : Tri -> Int,List.drop ((cntB L i : Int)).toNat (List.take ((cntB L (i + 1) : Int)).toNat (zs (L.map f))) = zs ((ptL L i).map f):=fun f=>by
    simp [zs,ptL,List.map_drop,List.map_take]
  conv=>whnf
  rw [e,e]
  exact rfl
/-! ### All triples -/
theorem pt_zero (L : List Tri) (h : ∀ x ∈ L,0 <= x.1) : cntB L 0 = 0:=cntB_zero fun x hx=>by have:=h x hx; omega
theorem pt_all' {rows : Int} {L : List Tri} (h : ∀ x ∈ L,x.1 < rows) (h0 : 0 <= rows) : cntB L rows.toNat = L.length:=by
  unfold cntB
  rw [List.filter_eq_self.2 fun x hx=>by have:=h x hx; simp; omega]
theorem map_getD {L : List Tri} {k : Nat} {x : Tri} (f : Tri -> Int) (h : L[k]? = some x) : (L.map f).getD k 0 = f x:=by
  rw [List.getD_eq_getElem?_getD,List.getElem?_map,h]; rfl
def ir_csr_Triples : IR :=
(.seq (.reg (⟨some 1,.bx (.t 0),none⟩::⟨some 2,.mv (.c (.nils)),none⟩::[])) (.seq (.reg (⟨some 9,.ld 5 true (.t 1),none⟩::⟨some 10,.call (.c (.fn 46 [])) [(.t 9)],none⟩::⟨none,.st 5 (.t 1) (.t 10),none⟩::[])) (.seq (.reg (⟨some 3,.mv (.c (.nils)),none⟩::[])) (.seq (.seq (.reg (⟨some 11,.fa 0 (.t 1),none⟩::⟨some 12,.ld 1 false (.t 11),none⟩::⟨some 13,.mv (.c (.int .i64 0)),none⟩::[])) (.block 0 (.loop (.seq (.reg (⟨some 14,.bin .lss (.t 13) (.t 12),none⟩::[])) (.seq (.cond (.t 14) .skip (.exit 0)) (.seq (.block 1 (.seq (.reg (⟨some 15,.mv (.t 13),none⟩::⟨some 4,.mv (.t 15),none⟩::[])) (.seq (.reg (⟨some 17,.ld 5 true (.t 1),none⟩::⟨some 18,.mv (.t 4),none⟩::⟨some 19,.call (.c (.fn 67 [])) [(.t 17),(.t 18)],none⟩::⟨some 16,.mv (.t 19),none⟩::⟨some 20,.ex 0 (.t 16),none⟩::⟨some 21,.ex 1 (.t 16),none⟩::⟨some 5,.mv (.t 20),none⟩::⟨some 6,.mv (.t 21),none⟩::[])) (.seq (.reg (⟨some 22,.mv (.t 5),none⟩::⟨some 23,.ln (.t 22),none⟩::⟨some 24,.mv (.c (.int .i64 0)),none⟩::[])) (.block 2 (.loop (.seq (.reg (⟨some 25,.bin .lss (.t 24) (.t 23),none⟩::[])) (.seq (.cond (.t 25) .skip (.exit 2)) (.seq (.block 3 (.seq (.reg (⟨some 26,.mv (.t 24),none⟩::⟨some 27,.ia 1 (.t 22) (.t 24),none⟩::⟨some 28,.ld 1 false (.t 27),none⟩::⟨some 7,.mv (.t 26),none⟩::⟨some 8,.mv (.t 28),none⟩::[])) (.reg (⟨some 29,.mv (.t 3),none⟩::⟨some 30,.mv (.t 4),none⟩::⟨some 31,.mv (.t 8),none⟩::⟨some 32,.mv (.t 6),none⟩::⟨some 33,.mv (.t 7),none⟩::⟨some 34,.ia 1 (.t 32) (.t 33),none⟩::⟨some 35,.ld 1 false (.t 34),none⟩::⟨some 36,.bld [.int .i64 0,.int .i64 0,.int .i64 0] [(0,1,(.t 30)),(1,1,(.t 31)),(2,1,(.t 35))],none⟩::⟨some 37,.bsl 1 3 [.int .i64 0,.int .i64 0,.int .i64 0] [(0,(.t 36))],none⟩::⟨some 38,.ap 3 24 (.t 29) (.t 37),none⟩::⟨some 3,.mv (.t 38),none⟩::[])))) (.reg (⟨some 39,.bin .add (.t 24) (.c (.int .i64 1)),none⟩::⟨some 24,.mv (.t 39),none⟩::[]))))))))))) (.reg (⟨some 40,.bin .add (.t 13) (.c (.int .i64 1)),none⟩::⟨some 13,.mv (.t 40),none⟩::[])))))))) (.seq (.reg (⟨some 41,.mv (.t 3),none⟩::⟨some 2,.mv (.t 41),none⟩::[])) .ret)))))
theorem cd_csr_Triples : Code1 Tryz.prog 33 42 ir_csr_Triples [.t 2]:=⟨Tryz.call33,_,_,Tryz.func33,rfl,by kernel_rfl,by kernel_rfl,by kernel_rfl,by kernel_rfl⟩
set_option maxHeartbeats 2000000 in
theorem fo_Triples {rows cols : Int} {L : List Tri} (hT : OkT rows cols L) : FO Tryz.prog 33 [MTr rows cols L] (.osl 0 3 0 L.length) [.arr 3 (eds L)]:=by
  refine fo_of_cvc mixed cd_csr_Triples (by simp) ?_
  have hr:=hT.r
  have hll:=hT.len
  have c1:=fs_Tsure hT
  have hc0 : cntB L 0 = 0:=pt_zero L fun x hx=>(hT.inr x hx).1
  have hcn : cntB L rows.toNat = L.length:=pt_all' (fun x hx=>(hT.inr x hx).2.1) hr.1
  repeat' (conv=>whnf); first |(refine Or.inl ⟨by rfl,_,c1,?_⟩) |(refine And.intro (show _ <= _ from Nat.le_of_ble_eq_true rfl) ?_) | refine And.intro rfl ?_ | fail
  refine ⟨Nat,fun i=>(i : Int) <= rows,fun i=>[(1,.ptr 0 0 0 0),(3,.osl 1 3 0 (cntB L i)),(12,.int .i64 rows),(13,.int .i64 (i : Int))],fun i=>[.vars [.int .i64 rows,.int .i64 cols,Z (stB rows L),Z (L.map fun x=>x.2.1),Z (L.map fun x=>x.2.2)],.arr 3 (eds (L.take (cntB L i)))],fun _=>none,fun i=>rows.toNat - i,⟨0,hT.r.1,⟨rfl,⟨Nat.le_refl _,rfl,hc0⟩,rfl,rfl,trivial⟩,⟨⟨rfl,rfl,rfl,rfl,rfl,trivial⟩,?_,trivial⟩,rfl⟩,fun i hi=>?_⟩
  . show eds (L.take (cntB L 0)) = []
    rw [hc0]; rfl
  have hi' : (i : Int) <= rows:=hi
  by_cases hir : (i : Int) < rows
  . have c2:=fs_part hT i hir
    have hm:=cntB_mono L (show i <= i + 1 by omega)
    have hcl:=cntB_le L (i + 1)
    have hpl:=pt_length L i
    have hz1:=zs_len ((ptL L i).map fun x=>x.2.1)
    have hz2:=zs_len ((ptL L i).map fun x=>x.2.2)
    have hl1 : ((ptL L i).map fun x=>x.2.1).length = cntB L (i + 1) - cntB L i:=by rw [List.length_map]; exact hpl
    have hl2 : ((ptL L i).map fun x=>x.2.2).length = cntB L (i + 1) - cntB L i:=by rw [List.length_map]; exact hpl
    repeat' (conv=>whnf); first |(refine Or.inl ⟨by rfl,_,c2,?_⟩) |(refine And.intro (show _ <= _ from Nat.le_of_ble_eq_true rfl) ?_) |(refine Br.dec (fun h=>?_) (fun h=>?_)) <;> try (exfalso; omega) | refine And.intro rfl ?_ | fail
    refine ⟨Nat,fun k=>k <= cntB L (i + 1) - cntB L i,fun k=>[(1,.ptr 0 0 0 0),(3,.osl 1 3 0 (cntB L i + k)),(4,.int .i64 (i : Int)),(6,Z ((ptL L i).map fun x=>x.2.2)),(12,.int .i64 rows),(13,.int .i64 (i : Int)),(22,Z ((ptL L i).map fun x=>x.2.1)),(23,.int .i64 ((cntB L (i + 1) - cntB L i : Nat) : Int)),(24,.int .i64 (k : Int))],fun k=>[.vars [.int .i64 rows,.int .i64 cols,Z (stB rows L),Z (L.map fun x=>x.2.1),Z (L.map fun x=>x.2.2)],.arr 3 (eds (L.take (cntB L i + k)))],fun _=>none,fun k=>cntB L (i + 1) - cntB L i - k,⟨0,Nat.zero_le _,⟨rfl,rfl,rfl,rfl,rfl,rfl,rfl,?_,rfl,trivial⟩,⟨⟨rfl,rfl,rfl,rfl,rfl,trivial⟩,rfl,trivial⟩,rfl⟩,fun k hk=>?_⟩
    . show SV.int .i64 _ = SV.int .i64 _
      rw [zs_len,hl1]
    have hk' : k <= cntB L (i + 1) - cntB L i:=hk
    have htk : (L.take (cntB L i + k)).length = cntB L i + k:=by rw [List.length_take]; omega
    have hel:=eds_len (L.take (cntB L i + k))
    by_cases hkn : k < cntB L (i + 1) - cntB L i
    . obtain ⟨x,hx⟩ : ∃ x,L[cntB L i + k]? = some x:=⟨_,List.getElem?_eq_getElem (by omega)⟩
      have hxr:=pt_row hT.rise (hT.inr x (List.mem_of_getElem? hx)).1 hkn hx
      have hpx : (ptL L i)[k]? = some x:=(pt_at hkn).trans hx
      have g1:=map_getD (fun x=>x.2.1) hpx
      have g2:=map_getD (fun x=>x.2.2) hpx
      have hmore : L.take (cntB L i + (k + 1)) = L.take (cntB L i + k) ++ [x]:=by
        rw [<- Nat.add_assoc,List.take_add_one,hx]; rfl
      repeat' (conv=>whnf); first |(refine zs_go (i:=k) (by omega) g1 ?_) |(refine zs_go (i:=k) (by omega) g2 ?_) |(refine And.intro (show _ <= _ from Nat.le_of_ble_eq_true rfl) ?_) |(refine Br.dec (fun h=>?_) (fun h=>?_)) <;> try (exfalso; omega) | refine And.intro rfl ?_ |(refine And.intro (by omega) ?_) |(refine And.intro (by simp only [lens_all]; first | done | omega) ?_) | fail
      refine ⟨fun y hy=>?_,?_⟩
      . obtain rfl : y = [.int .i64 (i : Int),.int .i64 x.2.1,.int .i64 x.2.2]:=List.mem_singleton.1 hy
        rfl
      repeat' (conv=>whnf); first | refine And.intro rfl ?_ |(refine ⟨_,Or.inl ⟨⟨by omega,by omega⟩,rfl⟩,?_⟩) | fail
      refine ⟨k + 1,(show k + 1 <= cntB L (i + 1) - cntB L i by omega),(show cntB L (i + 1) - cntB L i - (k + 1) < cntB L (i + 1) - cntB L i - k by omega),⟨rfl,rfl,rfl,rfl,rfl,rfl,rfl,rfl,rfl,trivial⟩,⟨⟨rfl,rfl,rfl,rfl,rfl,trivial⟩,?_,trivial⟩,rfl⟩
      show Blk.arr 3 (eds (L.take (cntB L i + k)) ++ [[.int .i64 (i : Int),.int .i64 x.2.1,.int .i64 x.2.2]]) = Blk.arr 3 (eds (L.take (cntB L i + (k + 1))))
      rw [hmore,<- hxr]
      simp [eds]
    . obtain rfl : k = cntB L (i + 1) - cntB L i:=by omega
      repeat' (conv=>whnf); first |(refine Br.dec (fun h=>?_) (fun h=>?_)) <;> try (exfalso; omega) | refine And.intro rfl ?_ |(refine ⟨_,Or.inl ⟨⟨by omega,by omega⟩,rfl⟩,?_⟩) | fail
      refine ⟨i + 1,(show ((i + 1 : Nat) : Int) <= rows by omega),(show rows.toNat - (i + 1) < rows.toNat - i by omega),⟨rfl,?_,rfl,rfl,trivial⟩,⟨⟨rfl,rfl,rfl,rfl,rfl,trivial⟩,?_,trivial⟩,rfl⟩
      . show SV.osl 1 3 0 (cntB L i + (cntB L (i + 1) - cntB L i)) = SV.osl 1 3 0 (cntB L (i + 1))
        congr 1; omega
      . show Blk.arr 3 (eds (L.take (cntB L i + (cntB L (i + 1) - cntB L i)))) = Blk.arr 3 (eds (L.take (cntB L (i + 1))))
        rw [show cntB L i + (cntB L (i + 1) - cntB L i) = cntB L (i + 1) by omega]
  . obtain rfl : i = rows.toNat:=by omega
    have e : L.take (cntB L rows.toNat) = L:=by rw [hcn,List.take_length]
    repeat' (conv=>whnf); first |(refine Br.dec (fun h=>?_) (fun h=>?_)) <;> try (exfalso; omega) | refine And.intro rfl ?_ | fail
    refine Or.inr (Or.inr (FoS.one 1 (by rw [<- hcn]; exact .osl 0 1 3 0 _ rfl) ?_ rfl))
    show some (Blk.arr 3 (eds (L.take (cntB L rows.toNat)))) = _
    rw [e]
theorem fz_ed (L : List Tri) : frzK 4 [.arr 3 (eds L)] (.osl 0 3 0 L.length) fun y=>y = EL L:=by
  refine ⟨rfl,by rw [eds_len]; simp,?_⟩
  show SV.slc 3 (List.take L.length (List.drop 0 (eds L))) = EL L
  rw [List.drop_zero,<- eds_len,List.take_length]; rfl
theorem fs_Triples {rows cols : Int} {L : List Tri} (h : OkT rows cols L) : FS Tryz.prog 33 [MTr rows cols L] (EL L):=fs_of_fo (fo_Triples h) (fz_ed L)
def ir_csr_order : IR :=
(.seq (.reg (⟨some 2,.bx (.t 0),none⟩::⟨some 3,.bx (.t 1),none⟩::⟨some 4,.mv (.c (.int .i64 0)),none⟩::[])) (.seq (.draw (⟨some 5,.fa 0 (.t 2),none⟩::⟨some 6,.ld 1 false (.t 5),none⟩::⟨some 7,.fa 0 (.t 3),none⟩::⟨some 8,.ld 1 false (.t 7),none⟩::⟨some 9,.call (.c (.fn 100 [])) [(.t 6),(.t 8)],none⟩::⟨some 10,.fa 1 (.t 2),none⟩::⟨some 11,.ld 1 false (.t 10),none⟩::⟨some 12,.fa 1 (.t 3),none⟩::⟨some 13,.ld 1 false (.t 12),none⟩::[]) (⟨some 14,.call (.c (.fn 100 [])) [(.t 11),(.t 13)],none⟩::⟨some 15,.bsl 2 1 [.int .i64 0] [(0,(.t 9)),(1,(.t 14))],none⟩::⟨some 16,.call (.c (.fn 99 [])) [(.t 15)],none⟩::⟨some 4,.mv (.t 16),none⟩::[])) .ret))
theorem cd_csr_order : Code1 Tryz.prog 69 17 ir_csr_order [.t 4]:=⟨Tryz.call69,_,_,Tryz.func69,rfl,by kernel_rfl,by kernel_rfl,by kernel_rfl,by kernel_rfl⟩
def ordT (a b : Tri) : Int:=or2 (cmpI a.1 b.1) (cmpI a.2.1 b.2.1)
theorem fs_order3 (a b : Tri) : FS Tryz.prog 69 [.agg [.int .i64 a.1,.int .i64 a.2.1,.int .i64 a.2.2],.agg [.int .i64 b.1,.int .i64 b.2.1,.int .i64 b.2.2]] (.int .i64 (ordT a b)):=by
  refine fs_of_cvc mixed cd_csr_order (by simp) ?_
  have c1:=fs_or2 (cmpI a.1 b.1) (cmpI a.2.1 b.2.1)
  repeat' (conv=>whnf); first |(refine Or.inl ⟨by rfl,_,fs_cmp _ _,?_⟩) |(refine Or.inl ⟨by rfl,_,c1,?_⟩) |(refine And.intro (show _ <= _ from Nat.le_of_ble_eq_true rfl) ?_) | refine And.intro rfl ?_ | fail
  exact rfl
end
section
open Go.RowKit
attribute [local irreducible] FS FO IT HS
def cntE (l : List Tri) (k : Nat) : Nat:=(l.filter fun x=>decide (x.1 + 1 = (k : Int))).length
theorem cntE_le (l : List Tri) (k : Nat) : cntE l k <= l.length:=List.length_filter_le _ _
theorem cntE_more {l : List Tri} {i : Nat} {x : Tri} (h : l[i]? = some x) (k : Nat) : cntE (l.take (i + 1)) k = cntE (l.take i) k + if x.1 + 1 = (k : Int) then 1 else 0:=by
  unfold cntE
  rw [List.take_add_one,h,List.filter_append,List.length_append]
  congr 1
  by_cases hx : x.1 + 1 = (k : Int)
  . rw [if_pos hx]; simp [hx]
  . rw [if_neg hx]; simp [hx]
theorem cntB_E (l : List Tri) (k : Nat) : cntB l (k + 1) = cntB l k + cntE l (k + 1):=by
  induction l with
  | nil=>rfl
  | cons x l ih =>
    have hB : ∀ m,cntB (x::l) m = (if x.1 < ((m : Nat) : Int) then 1 else 0) + cntB l m:=fun m=>by
      unfold cntB
      rw [List.filter_cons]
      by_cases hy : x.1 < (m : Int)
      . rw [if_pos hy,if_pos (decide_eq_true hy),List.length_cons]; omega
      . rw [if_neg hy,if_neg (by simp; omega)]; omega
    have hE : cntE (x::l) (k + 1) = (if x.1 + 1 = ((k + 1 : Nat) : Int) then 1 else 0) + cntE l (k + 1):=by
      unfold cntE
      rw [List.filter_cons]
      by_cases hy : x.1 + 1 = ((k + 1 : Nat) : Int)
      . rw [if_pos hy,if_pos (decide_eq_true hy),List.length_cons]; omega
      . rw [if_neg hy,if_neg (by simpa using hy)]; omega
    rw [hB,hB,hE,ih]
    by_cases h1 : x.1 < (k : Int)
    . rw [if_pos h1,if_pos (by omega),if_neg (by omega)]; omega
    . rw [if_neg h1]
      by_cases h2 : x.1 + 1 = ((k + 1 : Nat) : Int)
      . rw [if_pos h2,if_pos (by omega)]; omega
      . rw [if_neg h2,if_neg (by omega)]; omega
theorem cntE_zero {l : List Tri} (h : ∀ x ∈ l,0 <= x.1) : cntE l 0 = 0:=by
  unfold cntE
  rw [List.length_eq_zero_iff,List.filter_eq_nil_iff]
  intro x hx
  have:=h x hx
  simp; omega
def stE (rows : Int) (l : List Tri) : List Int:=tab (rows + 1).toNat fun k=>(cntE l k : Int)
theorem stE_len (rows : Int) (l : List Tri) : (stE rows l).length = (rows + 1).toNat:=tab_len _ _
theorem stE_get {rows : Int} {l : List Tri} {k : Nat} (h : (k : Int) <= rows) : (stE rows l).getD k 0 = (cntE l k : Int):=by
  unfold stE
  rw [List.getD_eq_getElem?_getD,tab_get _ (by omega)]; rfl
theorem stE_set {rows : Int} {l : List Tri} {i : Nat} {x : Tri} (h : l[i]? = some x) (h0 : 0 <= x.1) : (stE rows (l.take i)).set (x.1 + 1).toNat ((cntE (l.take i) (x.1 + 1).toNat : Int) + 1) = stE rows (l.take (i + 1)):=by
  refine tab_ext (by rw [List.length_set,stE_len]) fun k hk=>?_
  rw [List.getElem?_set,stE_len,cntE_more h]
  by_cases e : (x.1 + 1).toNat = k
  . subst e
    rw [if_pos rfl,if_pos hk,if_pos (by omega)]; simp
  . rw [if_neg e,if_neg (by omega)]
    unfold stE
    rw [tab_get _ hk]; simp
def stQ (rows : Int) (l : List Tri) (i : Nat) : List Int:=tab (rows + 1).toNat fun k=>if k < i + 1 then (cntB l k : Int) else (cntE l k : Int)
theorem stQ_len (rows : Int) (l : List Tri) (i : Nat) : (stQ rows l i).length = (rows + 1).toNat:=tab_len _ _
theorem stQ_start {rows : Int} {l : List Tri} (h : ∀ x ∈ l,0 <= x.1) : stE rows l = stQ rows l 0:=tab_congr fun k _=>by
  by_cases hk : k < 0 + 1
  . obtain rfl : k = 0:=by omega
    rw [if_pos hk,cntE_zero h,cntB_zero fun x hx=>by have:=h x hx; omega]
  . rw [if_neg hk]
theorem stQ_a {rows : Int} {l : List Tri} {i : Nat} (h : (i : Int) < rows) : (stQ rows l i).getD i 0 = (cntB l i : Int):=by
  unfold stQ
  rw [List.getD_eq_getElem?_getD,tab_get _ (by omega),if_pos (by omega)]; rfl
theorem stQ_b {rows : Int} {l : List Tri} {i : Nat} (h : (i : Int) < rows) : (stQ rows l i).getD (i + 1) 0 = (cntE l (i + 1) : Int):=by
  unfold stQ
  rw [List.getD_eq_getElem?_getD,tab_get _ (by omega),if_neg (by omega)]; rfl
theorem stQ_set (rows : Int) (l : List Tri) (i : Nat) : (stQ rows l i).set (i + 1) ((cntE l (i + 1) : Int) + (cntB l i : Int)) = stQ rows l (i + 1):=by
  have:=tab_set (n:=(rows + 1).toNat) (k:=i + 1) (fun k=>(cntB l k : Int)) (fun k=>(cntE l k : Int))
  rw [show ((cntE l (i + 1) : Int) + (cntB l i : Int)) = ((cntB l (i + 1) : Nat) : Int) by rw [cntB_E]; omega]
  exact this
theorem stQ_end {rows : Int} (l : List Tri) (h : 0 <= rows) : stQ rows l rows.toNat = stB rows l:=tab_congr fun k hk=>by rw [if_pos (by omega)]
theorem fo_cempty (rows cols : Int) (h0 : 0 <= rows) (h1 : rows <= 1000000) : FO Tryz.prog 77 [.int .i64 rows,.int .i64 cols] (.agg [.int .i64 rows,.int .i64 cols,.osl 0 1 0 (rows + 1).toNat,.nils,.nils]) [.arr 1 (zs (List.replicate (rows + 1).toNat 0))]:=by
  refine fo_of_cvc mixed cd_csr_empty (by simp) ?_
  repeat' (conv=>whnf); first |(refine And.intro (show _ <= _ from Nat.le_of_ble_eq_true rfl) ?_) | refine And.intro rfl ?_ |(refine And.intro (by omega) ?_) |(refine ⟨_,Or.inl ⟨⟨by omega,by omega⟩,rfl⟩,?_⟩) | fail
  exact Or.inr (Or.inr (FoS.one 1 (MatL.agg (.cons (.same _ rfl) (.cons (.same _ rfl) (.cons (.osl 0 1 1 0 _ rfl) (.cons (.same _ rfl) (.cons (.same _ rfl) .nil)))))) (by rw [zs_rep]; rfl) rfl))
set_option maxHeartbeats 8000000 in
theorem fo_cbuilt (rows cols : Int) (l : List Tri) (h0 : 0 <= rows) (h1 : rows <= 1000000) (hl : l.length <= 1000000) (hr : ∀ x ∈ l,0 <= x.1 /\ x.1 < rows) : FO Tryz.prog 49 [.int .i64 rows,.int .i64 cols,EL l] (MO (bM rows cols l)) (MB (bM rows cols l)):=by
  refine fo_of_cvc mixed cd_csr_built (by simp) ?_
  have c1:=fo_cempty rows cols h0 h1
  have hel:=eds_len l
  repeat' (conv=>whnf); first |(refine Or.inr (Or.inl ⟨by rfl,_,_,c1,?_⟩)) |(refine And.intro (show _ <= _ from Nat.le_of_ble_eq_true rfl) ?_) | refine And.intro rfl ?_ | fail
  refine ⟨Nat,fun i=>i <= l.length,fun i=>[(0,.int .i64 rows),(6,.ptr 0 0 0 0),(7,.ptr 2 0 0 0),(14,EL l),(15,.int .i64 (l.length : Int)),(16,.int .i64 (i : Int))],fun i=>[.vars [.int .i64 0,.int .i64 0,.nils,.nils,.nils],.arr 1 (zs (stE rows (l.take i))),.vars [.int .i64 rows,.int .i64 cols,.osl 1 1 0 (rows + 1).toNat,.osl 3 1 0 i,.osl 4 1 0 i],.arr 1 (zs ((l.take i).map fun x=>x.2.1)),.arr 1 (zs ((l.take i).map fun x=>x.2.2))],fun _=>none,fun i=>l.length - i,
    ⟨0,Nat.zero_le _,⟨rfl,rfl,rfl,rfl,?_,rfl,trivial⟩,⟨⟨rfl,rfl,rfl,rfl,rfl,trivial⟩,?_,⟨rfl,rfl,rfl,⟨Nat.le_of_ble_eq_true rfl,rfl,rfl⟩,⟨Nat.le_of_ble_eq_true rfl,rfl,rfl⟩,trivial⟩,rfl,rfl,trivial⟩,rfl⟩,fun i hi=>?_⟩
  . show SV.int .i64 _ = SV.int .i64 _
    rw [eds_len]
  . refine congrArg (fun l=>Blk.arr 1 (zs l)) ?_
    exact tab_ext (by simp) fun k hk=>by simp [cntE,hk]
  have hi : i <= l.length:=hi
  have hz1 : (zs ((l.take i).map fun x=>x.2.1)).length = i:=by rw [zs_len,List.length_map,List.length_take]; omega
  have hz2 : (zs ((l.take i).map fun x=>x.2.2)).length = i:=by rw [zs_len,List.length_map,List.length_take]; omega
  have hz3:=stE_len rows (l.take i)
  have hz4:=zs_len (stE rows (l.take i))
  by_cases hil : i < l.length
  . obtain ⟨x,hx⟩ : ∃ x,l.getD i (0,0,0) = x:=⟨_,rfl⟩
    have hxi : l[i]? = some x:=by rw [<- hx]; exact eds_some hil
    have hxr:=hr x (List.mem_of_getElem? hxi)
    have hm1:=map_more (fun x=>x.2.1) hxi
    have hm2:=map_more (fun x=>x.2.2) hxi
    have hg:=stE_get (rows:=rows) (l:=l.take i) (k:=(x.1 + 1).toNat) (by omega)
    have hcb:=cntE_le (l.take i) (x.1 + 1).toNat
    have hlt : (l.take i).length <= 1000000:=by simp; omega
    have hset:=stE_set (rows:=rows) hxi hxr.1
    generalize cntE (l.take i) (x.1 + 1).toNat = c at *
    repeat' (conv=>whnf); first |(refine eds_is' (i:=i) (by omega) hx ?_) |(refine ⟨_,zs_val (i:=(x.1 + 1).toNat) (by omega) hg (by omega),?_⟩) |(refine And.intro (show _ <= _ from Nat.le_of_ble_eq_true rfl) ?_) |((refine And.intro (fun y hy=>by rcases List.mem_singleton.1 hy with rfl; rfl) ?_)) |(refine Br.dec (fun h=>?_) (fun h=>?_)) <;> try (exfalso; omega) | refine And.intro rfl ?_ |(refine And.intro (by omega) ?_) |(refine ⟨_,Or.inl ⟨⟨by omega,by omega⟩,rfl⟩,?_⟩) |(refine And.intro (by simp only [lens_all]; first | done | omega) ?_) | fail
    refine ⟨i + 1,(show i + 1 <= l.length by omega),(show l.length - (i + 1) < l.length - i by omega),⟨rfl,rfl,rfl,rfl,rfl,rfl,trivial⟩,⟨⟨rfl,rfl,rfl,rfl,rfl,trivial⟩,?_,⟨rfl,rfl,rfl,rfl,rfl,trivial⟩,?_,?_,Nat.le_of_ble_eq_true rfl,rfl,rfl⟩,rfl⟩
    . rw [<- hset,<- zs_set]
      show Blk.arr 1 ((zs (stE rows (l.take i))).set (0 + (x.1 + 1).toNat) _) = _
      rw [Nat.zero_add]; rfl
    . refine congrArg (Blk.arr 1) ?_
      rw [hm1,zs_append]; rfl
    . refine congrArg (Blk.arr 1) ?_
      rw [hm2,zs_append]; rfl
  . obtain rfl : i = l.length:=by omega
    have e1 : l.take l.length = l:=List.take_length
    have hpos : ∀ x ∈ l,0 <= x.1:=fun x hx=>(hr x hx).1
    repeat' (conv=>whnf); first |(refine Br.dec (fun h=>?_) (fun h=>?_)) <;> try (exfalso; omega) | refine And.intro rfl ?_ | fail
    refine ⟨Nat,fun i=>(i : Int) <= rows,fun i=>[(6,.ptr 0 0 0 0),(7,.ptr 2 0 0 0),(44,.int .i64 rows),(45,.int .i64 (i : Int))],fun i=>[.vars [.int .i64 0,.int .i64 0,.nils,.nils,.nils],.arr 1 (zs (stQ rows l i)),.vars [.int .i64 rows,.int .i64 cols,.osl 1 1 0 (rows + 1).toNat,.osl 3 1 0 l.length,.osl 4 1 0 l.length],.arr 1 (zs (l.map fun x=>x.2.1)),.arr 1 (zs (l.map fun x=>x.2.2))],fun _=>none,fun i=>rows.toNat - i,
      ⟨0,h0,⟨rfl,rfl,rfl,rfl,trivial⟩,⟨⟨rfl,rfl,rfl,rfl,rfl,trivial⟩,?_,⟨rfl,rfl,rfl,rfl,rfl,trivial⟩,?_,?_,trivial⟩,rfl⟩,fun j hj=>?_⟩
    . show Blk.arr 1 (zs (stE rows (l.take l.length))) = Blk.arr 1 (zs (stQ rows l 0))
      rw [e1,stQ_start hpos]
    . show Blk.arr 1 (zs ((l.take l.length).map fun x=>x.2.1)) = _
      rw [e1]
    . show Blk.arr 1 (zs ((l.take l.length).map fun x=>x.2.2)) = _
      rw [e1]
    have hj : (j : Int) <= rows:=hj
    have hq1:=stQ_len rows l j
    have hq2:=zs_len (stQ rows l j)
    by_cases hjr : (j : Int) < rows
    . have ga:=stQ_a (l:=l) hjr
      have gb:=stQ_b (l:=l) hjr
      have hset:=stQ_set rows l j
      have hb1:=cntB_le l j
      have hb2:=cntE_le l (j + 1)
      generalize cntB l j = p at *
      generalize cntE l (j + 1) = q at *
      repeat' (conv=>whnf); first |(refine ⟨_,zs_val (i:=j + 1) (by omega) gb (by omega),?_⟩) |(refine ⟨_,zs_val (i:=j) (by omega) ga (by omega),?_⟩) |(refine And.intro (show _ <= _ from Nat.le_of_ble_eq_true rfl) ?_) |(refine Br.dec (fun h=>?_) (fun h=>?_)) <;> try (exfalso; omega) | refine And.intro rfl ?_ |(refine And.intro (by omega) ?_) |(refine ⟨_,Or.inl ⟨⟨by omega,by omega⟩,rfl⟩,?_⟩) | fail
      refine ⟨j + 1,(show ((j + 1 : Nat) : Int) <= rows by omega),(show rows.toNat - (j + 1) < rows.toNat - j by omega),⟨rfl,rfl,rfl,rfl,trivial⟩,⟨⟨rfl,rfl,rfl,rfl,rfl,trivial⟩,?_,⟨rfl,rfl,rfl,rfl,rfl,trivial⟩,rfl,rfl,trivial⟩,rfl⟩
      rw [<- hset,<- zs_set]
      show Blk.arr 1 ((zs (stQ rows l j)).set (0 + ((j : Int) + 1).toNat) _) = _
      rw [Nat.zero_add,show ((j : Int) + 1).toNat = j + 1 by omega]; rfl
    . obtain rfl : j = rows.toNat:=by omega
      have e5:=stQ_end l h0
      repeat' (conv=>whnf); first |(refine And.intro (show _ <= _ from Nat.le_of_ble_eq_true rfl) ?_) |(refine Br.dec (fun h=>?_) (fun h=>?_)) <;> try (exfalso; omega) | refine And.intro rfl ?_ | fail
      conv=>whnf
      have e2 : (bM rows cols l).2.2.1.length = (rows + 1).toNat:=stB_len _ _
      have e3 : (bM rows cols l).2.2.2.1.length = l.length:=by simp [bM]
      have e4 : (bM rows cols l).2.2.2.2.length = l.length:=by simp [bM]
      unfold MO
      rw [e2,e3,e4]
      refine Or.inr (Or.inr (FoS.threeK 1 3 4 (by decide) (by decide) (by decide) (MatL.agg (.cons (.same _ rfl) (.cons (.same _ rfl) (.cons (.osl 0 1 1 0 _ rfl) (.cons (.osl 1 3 1 0 _ rfl) (.cons (.osl 2 4 1 0 _ rfl) .nil)))))) ?_ rfl rfl rfl rfl rfl))
      show some (Blk.arr 1 (zs (stQ rows l rows.toNat))) = some (Blk.arr 1 (zs (stB rows l)))
      rw [e5]
end
end Go.Proofs.YtelbhbadkbcakaaGreat
