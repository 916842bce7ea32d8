/- A block of a matrix: csr.Cut. A block of a matrix, a piece of a vector. -/
import Derived.Test.YtelbhbadkbcakaaGreatL1
import Derived.Test.YtelbhbadkbcakaaGreatD4
import Derived.Test.YtelbhbadkbcakaaGreatJ5
namespace Go.Proofs.YtelbhbadkbcakaaGreat
section
open Go.RowKit
attribute [local irreducible] FS FO IT HS
def rowF1 (i c0 c1 : Int) (x : Int × Int) : Option Tri:=if c0 <= x.1 /\ x.1 < c1 then some (i,x.1 - c0,x.2) else none
def rowC (i c0 c1 : Int) (l : List (Int × Int)) : List Tri:=l.filterMap (rowF1 i c0 c1)
theorem rowC_more {i c0 c1 : Int} {l : List (Int × Int)} {k : Nat} {x : Int × Int} (h : l[k]? = some x) : rowC i c0 c1 (l.take (k + 1)) = rowC i c0 c1 (l.take k) ++ (rowF1 i c0 c1 x).toList:=by
  unfold rowC
  rw [List.take_add_one,h,List.filterMap_append]
  cases hr : rowF1 i c0 c1 x <;> simp [hr]
theorem rowC_in {i c0 c1 : Int} {l : List (Int × Int)} {p q v : Int} : (p,q,v) ∈ rowC i c0 c1 l ↔ p = i /\ 0 <= q /\ q < c1 - c0 /\ (c0 + q,v) ∈ l:=by
  unfold rowC rowF1
  rw [List.mem_filterMap]
  constructor
  . rintro ⟨⟨x1,x2⟩,hx,he⟩
    split at he
    . rename_i h
      simp only at h
      cases he
      refine ⟨rfl,by omega,by omega,?_⟩
      rw [show c0 + (x1 - c0) = x1 by omega]; exact hx
    . cases he
  . rintro ⟨rfl,h1,h2,h3⟩
    refine ⟨_,h3,?_⟩
    rw [if_pos (by simp only; omega)]
    simp only [Option.some.injEq,Prod.mk.injEq,true_and,and_true]
    omega
def cutN (L : List Tri) (r0 c0 c1 : Int) : Nat -> List Tri
  | 0=>[]
  | n + 1=>cutN L r0 c0 c1 n ++ rowC n c0 c1 (colT L (r0 + n))
section
variable {rows cols : Int} {L : List Tri} (hT : OkT rows cols L) {r0 c0 c1 : Int} (hr0 : 0 <= r0)
include hT hr0
theorem cutN_in {p q v : Int} : ∀ n : Nat,(p,q,v) ∈ cutN L r0 c0 c1 n ↔ 0 <= p /\ p < n /\ 0 <= q /\ q < c1 - c0 /\ (r0 + p,c0 + q,v) ∈ L
  | 0=>by simp [cutN]; omega
  | n + 1 => by
    rw [cutN,List.mem_append,cutN_in n,rowC_in,colT_in hT.rise (fun y hy=>(hT.inr y hy).1) (show (0 : Int) <= r0 + n by omega)]
    constructor
    . rintro (h | ⟨rfl,h1,h2,h3⟩)
      . exact ⟨h.1,by omega,h.2.2⟩
      . exact ⟨by omega,by omega,h1,h2,h3⟩
    . rintro ⟨h1,h2,h3,h4,h5⟩
      by_cases e : p = n
      . subst e; exact .inr ⟨rfl,h3,h4,h5⟩
      . exact .inl ⟨h1,by omega,h3,h4,h5⟩
theorem cutN_rise : ∀ n : Nat,Rise (cutN L r0 c0 c1 n)
  | 0=>.nil
  | n + 1 => by
    rw [cutN]
    unfold Rise
    rw [List.pairwise_append]
    refine ⟨cutN_rise n,?_,fun a ha b hb=>?_⟩
    . unfold rowC
      rw [List.pairwise_filterMap]
      refine (colT_up hT.rise (fun y hy=>(hT.inr y hy).1) (r0 + n)).imp fun {a b} h x hx y hy=>?_
      unfold rowF1 at hx hy
      split at hx
      . split at hy
        . cases hx; cases hy
          have h' : a.1 < b.1:=h
          refine bel_iff.2 (.inr ⟨rfl,?_⟩)
          show a.1 - c0 < b.1 - c0
          omega
        . cases hy
      . cases hx
    . obtain ⟨a1,a2,a3⟩:=a
      obtain ⟨b1,b2,b3⟩:=b
      have h1:=(cutN_in hT hr0 n).1 ha
      have h2:=rowC_in.1 hb
      rw [bel_iff]; simp only; omega
omit hT in
theorem cutN_len : ∀ n : Nat,(cutN L r0 c0 c1 n).length + cntB L r0.toNat <= cntB L (r0.toNat + n)
  | 0=>by simp [cutN]
  | n + 1 => by
    have ih:=cutN_len n
    have h1 : (rowC n c0 c1 (colT L (r0 + n))).length <= (colT L (r0 + n)).length:=List.length_filterMap_le _ _
    have h2:=pt_length L (r0.toNat + n)
    have hm:=cntB_mono L (show r0.toNat + n <= r0.toNat + n + 1 by omega)
    have h3 : (colT L (r0 + n)).length = (ptL L (r0.toNat + n)).length:=by
      unfold colT
      rw [List.length_map,show (r0 + (n : Int)).toNat = r0.toNat + n by omega]
    rw [cutN,List.length_append,<- Nat.add_assoc]
    omega
omit hT in
theorem cutN_le (n : Nat) : (cutN L r0 c0 c1 n).length <= L.length:=by
  have h1:=cutN_len hr0 (L:=L) (c0:=c0) (c1:=c1) n
  have h2:=cntB_le L (r0.toNat + n)
  omega
theorem okT_cut {hi wi : Int} (h0 : 0 <= hi) (h1 : r0 + hi <= rows) (hc0 : 0 <= c0) (w0 : 0 <= wi) (w1 : c0 + wi <= cols) : OkT hi wi (cutN L r0 c0 (c0 + wi) hi.toNat):=by
  have hr:=hT.r
  have hc:=hT.c
  refine ⟨⟨h0,by omega⟩,⟨w0,by omega⟩,cutN_rise hT hr0 _,fun x hx=>?_,by have:=cutN_le hr0 (L:=L) (c0:=c0) (c1:=c0 + wi) hi.toNat; have:=hT.len; omega⟩
  obtain ⟨p,q,v⟩:=x
  have:=(cutN_in hT hr0 _).1 hx
  simp only
  omega
theorem colT_cut {k : Int} {n : Nat} (hk : 0 <= k) (hkn : k < n) (c : Int) (hc0 : 0 <= c) (hc1 : c < c1 - c0) : gt (colT (cutN L r0 c0 c1 n) k) c = gt (colT L (r0 + k)) (c0 + c):=by
  have hi:=cutN_rise hT hr0 (c0:=c0) (c1:=c1) n
  have hp : ∀ y ∈ cutN L r0 c0 c1 n,0 <= y.1:=fun y hy=>((cutN_in hT hr0 (p:=y.1) (q:=y.2.1) (v:=y.2.2) n).1 hy).1
  have u1:=colT_up hi hp k
  have u2:=colT_up hT.rise (fun y hy=>(hT.inr y hy).1) (r0 + k)
  have h : ∀ v,gt (colT (cutN L r0 c0 c1 n) k) c = some v ↔ gt (colT L (r0 + k)) (c0 + c) = some v:=fun v=>by
    rw [gt_iff u1,gt_iff u2,colT_in hi hp hk,colT_in hT.rise (fun y hy=>(hT.inr y hy).1) (by omega),cutN_in hT hr0]
    constructor
    . exact fun h=>h.2.2.2.2
    . exact fun h=>⟨hk,hkn,hc0,hc1,h⟩
  cases h1 : gt (colT L (r0 + k)) (c0 + c) with
  | none =>
    cases h2 : gt (colT (cutN L r0 c0 c1 n) k) c with
    | none=>rfl
    | some v=>have:=(h v).1 h2; rw [h1] at this; cases this
  | some v=>exact (h v).2 h1
end
set_option maxHeartbeats 4000000 in
theorem fo_cCut {rows cols : Int} {L : List Tri} (hT : OkT rows cols L) {r0 hi c0 wi : Int} (hr0 : 0 <= r0) (h0 : 0 <= hi) (h1 : r0 + hi <= rows) (hc0 : 0 <= c0) (w0 : 0 <= wi) (w1 : c0 + wi <= cols) :
    FO Tryz.prog 20 [MTr rows cols L,.agg [.int .i64 r0,.int .i64 (r0 + hi)],.agg [.int .i64 c0,.int .i64 (c0 + wi)]] (MO (bM hi wi (cutN L r0 c0 (c0 + wi) hi.toNat))) (MB (bM hi wi (cutN L r0 c0 (c0 + wi) hi.toNat))):=by
  refine fo_of_cvc mixed cd_csr_Cut (by simp) ?_
  have hr:=hT.r
  have hc:=hT.c
  have hll:=hT.len
  have c1:=fs_Tsure hT
  have c2:=fs_cbnd r0 (r0 + hi) rows (by omega)
  rw [show r0 + hi - r0 = hi by omega] at c2
  have c3:=fs_cbnd c0 (c0 + wi) cols (by omega)
  rw [show c0 + wi - c0 = wi by omega] at c3
  have hC:=okT_cut hT hr0 h0 h1 hc0 w0 w1
  have c5:=fo_cbuilt hi wi (cutN L r0 c0 (c0 + wi) hi.toNat) h0 (by omega) (by have:=hC.len; omega) (fun x hx=>⟨(hC.inr x hx).1,(hC.inr x hx).2.1⟩)
  repeat' (conv=>whnf); first |(refine Or.inl ⟨by rfl,_,c1,?_⟩) |(refine Or.inl ⟨by rfl,_,c2,?_⟩) |(refine Or.inl ⟨by rfl,_,c3,?_⟩) |(refine And.intro (show _ <= _ from Nat.le_of_ble_eq_true rfl) ?_) | refine And.intro rfl ?_ | fail
  refine ⟨Nat,fun i=>(i : Int) <= hi,fun i=>[(3,.ptr 0 0 0 0),(6,.ptr 3 0 0 0),(7,.int .i64 r0),(8,.int .i64 hi),(9,.int .i64 c0),(10,.int .i64 wi),(11,.osl 4 3 0 (cutN L r0 c0 (c0 + wi) i).length),(31,.int .i64 hi),(32,.int .i64 (i : Int))],fun i=>[.vars [.int .i64 rows,.int .i64 cols,Z (stB rows L),Z (L.map fun x=>x.2.1),Z (L.map fun x=>x.2.2)],.vars [.int .i64 r0,.int .i64 (r0 + hi)],.vars [.int .i64 c0,.int .i64 (c0 + wi)],.vars [.int .i64 0,.int .i64 0,.nils,.nils,.nils],.arr 3 (eds (cutN L r0 c0 (c0 + wi) i))],fun _=>none,fun i=>hi.toNat - i,
    ⟨0,h0,⟨rfl,rfl,rfl,rfl,rfl,rfl,⟨Nat.le_refl _,rfl,rfl⟩,rfl,rfl,trivial⟩,⟨⟨rfl,rfl,rfl,rfl,rfl,trivial⟩,⟨rfl,rfl,trivial⟩,⟨rfl,rfl,trivial⟩,⟨rfl,rfl,rfl,rfl,rfl,trivial⟩,rfl,trivial⟩,rfl⟩,fun i hi'=>?_⟩
  have hi2 : (i : Int) <= hi:=hi'
  have hcl:=cutN_le hr0 (L:=L) (c0:=c0) (c1:=c0 + wi) i
  by_cases hir : (i : Int) < hi
  . obtain ⟨T,hTe⟩ : ∃ T,colT L (r0 + (i : Int)) = T:=⟨_,rfl⟩
    have c4:=fs_cRow hT (r0 + (i : Int)).toNat (by omega)
    rw [Int.toNat_of_nonneg (by omega),hTe] at c4
    have hsucc : cutN L r0 c0 (c0 + wi) (i + 1) = cutN L r0 c0 (c0 + wi) i ++ rowC i c0 (c0 + wi) T:=by rw [cutN,hTe]
    have hTl : T.length <= 65536:=by rw [<- hTe]; have:=colT_bd (L:=L) (r0 + (i : Int)); omega
    have hTc : ∀ x ∈ T,0 <= x.1 /\ x.1 < cols:=fun x hx=>by
      rw [<- hTe] at hx
      obtain ⟨y,hy,rfl⟩:=colT_of hx
      have:=hT.inr y hy
      simp only; omega
    have hil:=its_len T
    repeat' (conv=>whnf); first |(refine Or.inl ⟨by rfl,_,c4,?_⟩) |(refine And.intro (show _ <= _ from Nat.le_of_ble_eq_true rfl) ?_) |(refine Br.dec (fun h=>?_) (fun h=>?_)) <;> try (exfalso; omega) | refine And.intro rfl ?_ |(refine ⟨_,Or.inl ⟨⟨by omega,by omega⟩,rfl⟩,?_⟩) | fail
    refine ⟨Nat,fun k=>k <= T.length,fun k=>[(3,.ptr 0 0 0 0),(6,.ptr 3 0 0 0),(7,.int .i64 r0),(8,.int .i64 hi),(9,.int .i64 c0),(10,.int .i64 wi),(11,.osl 4 3 0 (cutN L r0 c0 (c0 + wi) i ++ rowC i c0 (c0 + wi) (T.take k)).length),(12,.int .i64 (i : Int)),(31,.int .i64 hi),(32,.int .i64 (i : Int)),(39,IL T),(40,.int .i64 (T.length : Int)),(41,.int .i64 (k : Int))],fun k=>[.vars [.int .i64 rows,.int .i64 cols,Z (stB rows L),Z (L.map fun x=>x.2.1),Z (L.map fun x=>x.2.2)],.vars [.int .i64 r0,.int .i64 (r0 + hi)],.vars [.int .i64 c0,.int .i64 (c0 + wi)],.vars [.int .i64 0,.int .i64 0,.nils,.nils,.nils],.arr 3 (eds (cutN L r0 c0 (c0 + wi) i ++ rowC i c0 (c0 + wi) (T.take k)))],fun _=>none,fun k=>T.length - k,
      ⟨0,Nat.zero_le _,⟨rfl,rfl,rfl,rfl,rfl,rfl,?_,rfl,rfl,rfl,rfl,?_,rfl,trivial⟩,⟨⟨rfl,rfl,rfl,rfl,rfl,trivial⟩,⟨rfl,rfl,trivial⟩,⟨rfl,rfl,trivial⟩,⟨rfl,rfl,rfl,rfl,rfl,trivial⟩,?_,trivial⟩,rfl⟩,fun k hk=>?_⟩
    . refine congrArg (SV.osl 4 3 0) ?_
      simp [rowC]
    . show SV.int .i64 _ = SV.int .i64 _
      rw [hil]
    . refine congrArg (fun l=>Blk.arr 3 (eds l)) ?_
      simp [rowC]
    have hk : k <= T.length:=hk
    have hrl : (rowC i c0 (c0 + wi) (T.take k)).length <= T.length:=Nat.le_trans (List.length_filterMap_le _ _) (by simp; omega)
    have hel:=eds_len (cutN L r0 c0 (c0 + wi) i ++ rowC i c0 (c0 + wi) (T.take k))
    have hal : (cutN L r0 c0 (c0 + wi) i ++ rowC i c0 (c0 + wi) (T.take k)).length <= 1000000:=by rw [List.length_append]; omega
    by_cases hkn : k < T.length
    . obtain ⟨x,hx⟩ : ∃ x,T.getD k (0,0) = x:=⟨_,rfl⟩
      have hxk : T[k]? = some x:=by rw [<- hx]; exact getD_some hkn
      have hxc:=hTc x (List.mem_of_getElem? hxk)
      have hmore:=rowC_more (i:=i) (c0:=c0) (c1:=c0 + wi) hxk
      by_cases hin : c0 <= x.1 /\ x.1 < c0 + wi
      . rw [show rowF1 i c0 (c0 + wi) x = some ((i : Int),x.1 - c0,x.2) from if_pos hin] at hmore
        repeat' (conv=>whnf); first |(refine its_go' (i:=k) (by omega) hx ?_) |(refine And.intro (show _ <= _ from Nat.le_of_ble_eq_true rfl) ?_) |((refine And.intro (fun y hy=>by rcases List.mem_singleton.1 hy with rfl; rfl) ?_)) | refine Br.tt ?_ |(refine Br.dec (fun h=>?_) (fun h=>?_)) <;> try (exfalso; omega) | refine And.intro rfl ?_ |(refine And.intro (by omega) ?_) |(refine ⟨_,Or.inl ⟨⟨by omega,by omega⟩,rfl⟩,?_⟩) |(refine And.intro (by simp only [lens_all]; first | done | omega) ?_) | fail
        refine ⟨k + 1,(show k + 1 <= T.length by omega),(show T.length - (k + 1) < T.length - k by omega),⟨rfl,rfl,rfl,rfl,rfl,rfl,?_,rfl,rfl,rfl,rfl,rfl,rfl,trivial⟩,⟨⟨rfl,rfl,rfl,rfl,rfl,trivial⟩,⟨rfl,rfl,trivial⟩,⟨rfl,rfl,trivial⟩,⟨rfl,rfl,rfl,rfl,rfl,trivial⟩,?_,Nat.le_of_ble_eq_true rfl,rfl,rfl⟩,rfl⟩
        . refine congrArg (SV.osl 4 3 0) ?_
          rw [hmore]; simp; omega
        . refine congrArg (Blk.arr 3) ?_
          rw [hmore,<- List.append_assoc]; exact (eds_append _ [((i : Int),x.1 - c0,x.2)]).symm
      . rw [show rowF1 i c0 (c0 + wi) x = none from if_neg hin] at hmore
        have hmore' : rowC i c0 (c0 + wi) (T.take (k + 1)) = rowC i c0 (c0 + wi) (T.take k):=by rw [hmore]; simp
        repeat' (conv=>whnf); first |(refine its_go' (i:=k) (by omega) hx ?_) |(refine And.intro (show _ <= _ from Nat.le_of_ble_eq_true rfl) ?_) | refine Br.tt ?_ | refine Br.ff ?_ |(refine Br.dec (fun h=>?_) (fun h=>?_)) <;> try (exfalso; omega) | refine And.intro rfl ?_ |(refine And.intro (by omega) ?_) |(refine ⟨_,Or.inl ⟨⟨by omega,by omega⟩,rfl⟩,?_⟩) | fail
        all_goals
          refine ⟨k + 1,(show k + 1 <= T.length by omega),(show T.length - (k + 1) < T.length - k by omega),⟨rfl,rfl,rfl,rfl,rfl,rfl,?_,rfl,rfl,rfl,rfl,rfl,rfl,trivial⟩,⟨⟨rfl,rfl,rfl,rfl,rfl,trivial⟩,⟨rfl,rfl,trivial⟩,⟨rfl,rfl,trivial⟩,⟨rfl,rfl,rfl,rfl,rfl,trivial⟩,?_,Nat.le_of_ble_eq_true rfl,rfl,rfl⟩,rfl⟩
          . refine congrArg (SV.osl 4 3 0) ?_
            rw [hmore']
          . refine congrArg (fun l=>Blk.arr 3 (eds l)) ?_
            rw [hmore']
    . obtain rfl : k = T.length:=by omega
      have eT : T.take T.length = T:=List.take_length
      repeat' (conv=>whnf); first |(refine Br.dec (fun h=>?_) (fun h=>?_)) <;> try (exfalso; omega) | refine And.intro rfl ?_ |(refine ⟨_,Or.inl ⟨⟨by omega,by omega⟩,rfl⟩,?_⟩) | fail
      refine ⟨i + 1,(show ((i + 1 : Nat) : Int) <= hi by omega),(show hi.toNat - (i + 1) < hi.toNat - i by omega),⟨rfl,rfl,rfl,rfl,rfl,rfl,?_,rfl,rfl,trivial⟩,⟨⟨rfl,rfl,rfl,rfl,rfl,trivial⟩,⟨rfl,rfl,trivial⟩,⟨rfl,rfl,trivial⟩,⟨rfl,rfl,rfl,rfl,rfl,trivial⟩,?_,trivial⟩,rfl⟩
      . refine congrArg (SV.osl 4 3 0) ?_
        rw [hsucc,eT]
      . refine congrArg (fun l=>Blk.arr 3 (eds l)) ?_
        rw [hsucc,eT]
  . obtain rfl : i = hi.toNat:=by omega
    have hkl:=eds_len (cutN L r0 c0 (c0 + wi) hi.toNat)
    repeat' (conv=>whnf); first |(refine Or.inr (Or.inr (Or.inr (Or.inr (Or.inl (frz_own3 rfl rfl (by rfl) hkl.symm rfl ⟨_,_,c5,rfl,mb_loose _,?_⟩)))))) |(refine And.intro (show _ <= _ from Nat.le_of_ble_eq_true rfl) ?_) |(refine Br.dec (fun h=>?_) (fun h=>?_)) <;> try (exfalso; omega) | refine And.intro rfl ?_ | fail
    exact Or.inr (Or.inr (FoS.threeK 5 6 7 (by decide) (by decide) (by decide) (MatL.agg (.cons (.same _ rfl) (.cons (.same _ rfl) (.cons (.osl 0 5 1 0 _ rfl) (.cons (.osl 1 6 1 0 _ rfl) (.cons (.osl 2 7 1 0 _ rfl) .nil)))))) rfl rfl rfl rfl rfl rfl))
end
section
open Go.RowKit
attribute [local irreducible] FS FO IT HS
theorem may_of {n k : Int} (h : 0 <= n /\ n <= 4096) (h1 : 1 <= k) (h2 : k <= 8) : mayB n k = true:=mayB_iff.2 ⟨h.1,h.2,by omega,h2⟩
theorem part_in {n k i : Int} (hm : mayB n k = true) (_h0 : 0 <= i) (h1 : i < k) : 0 <= lowI n k i /\ lowI n k i <= lowI n k (i + 1) /\ lowI n k (i + 1) <= n:=by
  have a:=low_bd n k i
  have b:=low_mono hm (show i <= i + 1 by omega)
  have c:=low_mono hm (show i + 1 <= k by omega)
  rw [low_big hm (Int.le_refl k)] at c
  exact ⟨a.1,b,c⟩
def szI (n k i : Int) : Int:=lowI n k (i + 1) - lowI n k i
def bT (rows cols r c i j : Int) (L : List Tri) : List Tri:=cutN L (lowI rows r i) (lowI cols c j) (lowI cols c (j + 1)) (szI rows r i).toNat
theorem okT_blk {rows cols r c i j : Int} {L : List Tri} (hT : OkT rows cols L) (h : GridI r c i j) : OkT (szI rows r i) (szI cols c j) (bT rows cols r c i j L):=by
  obtain ⟨h1,h2,h3,h4,h5,h6,h7,h8⟩:=h
  have p:=part_in (may_of hT.r h1 h2) h5 h6
  have q:=part_in (may_of hT.c h3 h4) h7 h8
  have:=okT_cut hT p.1 (hi:=szI rows r i) (c0:=lowI cols c j) (wi:=szI cols c j) (by unfold szI; omega) (by unfold szI; omega) (by omega) (by unfold szI; omega) (by unfold szI; omega)
  rwa [show lowI cols c j + szI cols c j = lowI cols c (j + 1) by unfold szI; omega] at this
def ir_block_Cut : IR :=
(.seq (.reg (⟨some 5,.bx (.t 0),none⟩::⟨some 10,.al [.int .i64 0,.int .i64 0,.nils,.nils,.nils],none⟩::[])) (.seq (.seq (.reg (⟨some 11,.ld 5 true (.t 5),none⟩::⟨some 12,.call (.c (.fn 19 [])) [(.t 11)],none⟩::⟨some 13,.un .not (.t 12),none⟩::⟨some 14,.mv (.t 13),none⟩::⟨some 15,.mv (.t 1),some (14,false)⟩::⟨some 16,.mv (.t 2),some (14,false)⟩::⟨some 17,.mv (.t 3),some (14,false)⟩::⟨some 18,.mv (.t 4),some (14,false)⟩::⟨some 19,.call (.c (.fn 79 [])) [(.t 15),(.t 16),(.t 17),(.t 18)],some (14,false)⟩::⟨some 20,.un .not (.t 19),some (14,false)⟩::⟨some 21,.pick (.t 14) (.c (.bool true)) (.t 20),none⟩::[])) (.cond (.t 21) (.seq (.reg (⟨some 22,.bld [.int .i64 0,.int .i64 0,.nils,.nils,.nils] [],none⟩::⟨some 23,.bld [.int .i64 0,.int .i64 0] [],none⟩::⟨some 24,.bld [.int .i64 0,.int .i64 0] [],none⟩::⟨some 25,.call (.c (.fn 20 [])) [(.t 22),(.t 23),(.t 24)],none⟩::⟨none,.st 5 (.t 10) (.t 25),none⟩::[])) .ret) .skip)) (.seq (.draw (⟨some 26,.ld 5 true (.t 5),none⟩::⟨some 27,.fa 0 (.t 5),none⟩::⟨some 28,.ld 1 false (.t 27),none⟩::⟨some 29,.mv (.t 1),none⟩::⟨some 30,.mv (.t 3),none⟩::⟨some 31,.call (.c (.fn 80 [])) [(.t 28),(.t 29),(.t 30)],none⟩::⟨some 32,.fa 1 (.t 5),none⟩::⟨some 33,.ld 1 false (.t 32),none⟩::⟨some 34,.mv (.t 2),none⟩::⟨some 35,.mv (.t 4),none⟩::⟨some 36,.call (.c (.fn 80 [])) [(.t 33),(.t 34),(.t 35)],none⟩::[]) (⟨some 37,.call (.c (.fn 20 [])) [(.t 26),(.t 31),(.t 36)],none⟩::⟨none,.st 5 (.t 10) (.t 37),none⟩::[])) .ret)))
theorem cd_block_Cut : Code1 Tryz.prog 55 38 ir_block_Cut [.c 5 true 10]:=⟨Tryz.call55,_,_,Tryz.func55,rfl,by kernel_rfl,by kernel_rfl,by kernel_rfl,by kernel_rfl⟩
set_option maxHeartbeats 4000000 in
theorem fs_bCut {rows cols r c i j : Int} {L : List Tri} (hT : OkT rows cols L) (h : GridI r c i j) : FS Tryz.prog 55 [MTr rows cols L,.int .i64 r,.int .i64 c,.int .i64 i,.int .i64 j] (MTr (szI rows r i) (szI cols c j) (bT rows cols r c i j L)):=by
  refine fs_of_cvc mixed cd_block_Cut (by simp) ?_
  have c2:=fs_mRight rows cols (stB rows L) (L.map fun x=>x.2.1) (L.map fun x=>x.2.2)
  rw [hT.ok.right] at c2
  have c2' : FS Tryz.prog 19 [MTr rows cols L] (.bool true):=c2
  have c3:=fs_bgrid h
  obtain ⟨h1,h2,h3,h4,h5,h6,h7,h8⟩:=h
  have p:=part_in (may_of hT.r h1 h2) h5 h6
  have q:=part_in (may_of hT.c h3 h4) h7 h8
  have c4:=fs_bbounds rows r i (by omega)
  have c5:=fs_bbounds cols c j (by omega)
  have c6:=fs_of_fo (fo_cCut hT p.1 (hi:=szI rows r i) (c0:=lowI cols c j) (wi:=szI cols c j) (by unfold szI; omega) (by unfold szI; omega) (by omega) (by unfold szI; omega) (by unfold szI; omega)) (fz_MO _)
  rw [show lowI cols c j + szI cols c j = lowI cols c (j + 1) by unfold szI; omega,show lowI rows r i + szI rows r i = lowI rows r (i + 1) by unfold szI; omega] at c6
  have c6' : FS Tryz.prog 20 [MTr rows cols L,.agg [.int .i64 (lowI rows r i),.int .i64 (lowI rows r (i + 1))],.agg [.int .i64 (lowI cols c j),.int .i64 (lowI cols c (j + 1))]] (MTr (szI rows r i) (szI cols c j) (bT rows cols r c i j L)):=c6
  unfold MTr MX at *
  generalize lowI rows r i = x1 at *
  generalize lowI rows r (i + 1) = x2 at *
  generalize lowI cols c j = y1 at *
  generalize lowI cols c (j + 1) = y2 at *
  generalize bT rows cols r c i j L = B at *
  repeat' (conv=>whnf); first |(refine Or.inl ⟨by rfl,_,c2',?_⟩) |(refine Or.inl ⟨by rfl,_,c3,?_⟩) |(refine Or.inl ⟨by rfl,_,c4,?_⟩) |(refine Or.inl ⟨by rfl,_,c5,?_⟩) |(refine Or.inl ⟨by rfl,_,c6',?_⟩) |(exact rfl) |((refine And.intro ?_ ?_; focus ((repeat' (first | exact trivial | exact rfl | (refine And.intro ?_ ?_) | omega | exact Nat.le_of_ble_eq_true rfl | ((conv=>whnf); first | exact trivial | exact rfl | (refine And.intro ?_ ?_)))); done))) | refine Br.ff ?_ | fail
  all_goals first | exact rfl | exact trivial | exact ⟨rfl,rfl,rfl,rfl,rfl,trivial⟩
def bW (n k i : Int) (W : List (Int × Int)) : List (Int × Int):=if lowI n k (i + 1) <= lowI n k i then [] else ptI (lowI n k i) (lowI n k (i + 1)) W
theorem ptR_bW {n k i : Int} {W : List (Int × Int)} (hn : 0 <= n /\ n <= 4096) (hk1 : 1 <= k) (hk2 : k <= 8) (h0 : 0 <= i) (h1 : i < k) : ptR n W (lowI n k i) (lowI n k (i + 1)) = (szI n k i,bW n k i W):=by
  have p:=part_in (may_of hn hk1 hk2) h0 h1
  unfold ptR bW szI
  rw [show min (lowI n k (i + 1)) n = lowI n k (i + 1) by omega,show max (lowI n k i) 0 = lowI n k i by omega]
  by_cases e : lowI n k (i + 1) <= lowI n k i
  . rw [if_pos e,if_pos e,show lowI n k (i + 1) - lowI n k i = 0 by omega]
  . rw [if_neg e,if_neg e]
def ir_block_Piece : IR :=
(.seq (.reg (⟨some 3,.bx (.t 0),none⟩::⟨some 6,.al [.int .i64 0,.nils],none⟩::[])) (.seq (.seq (.reg (⟨some 8,.ld 2 true (.t 3),none⟩::⟨some 9,.call (.c (.fn 21 [])) [(.t 8)],none⟩::⟨some 10,.un .not (.t 9),none⟩::⟨some 11,.mv (.t 10),none⟩::⟨some 12,.mv (.t 1),some (11,false)⟩::⟨some 13,.mv (.t 2),some (11,false)⟩::⟨some 14,.call (.c (.fn 79 [])) [(.t 12),(.c (.int .i64 1)),(.t 13),(.c (.int .i64 0))],some (11,false)⟩::⟨some 15,.un .not (.t 14),some (11,false)⟩::⟨some 16,.pick (.t 11) (.c (.bool true)) (.t 15),none⟩::[])) (.cond (.t 16) (.seq (.reg (⟨some 17,.bld [.int .i64 0,.nils] [],none⟩::⟨none,.st 2 (.t 6) (.t 17),none⟩::[])) .ret) .skip)) (.seq (.reg (⟨some 18,.fa 0 (.t 3),none⟩::⟨some 19,.ld 1 false (.t 18),none⟩::⟨some 20,.mv (.t 1),none⟩::⟨some 21,.mv (.t 2),none⟩::⟨some 22,.call (.c (.fn 80 [])) [(.t 19),(.t 20),(.t 21)],none⟩::⟨some 7,.al [.int .i64 0,.int .i64 0],none⟩::⟨none,.st 2 (.t 7) (.t 22),none⟩::[])) (.seq (.reg (⟨some 23,.ld 2 true (.t 3),none⟩::⟨some 24,.iaA 2 1 (.t 7) (.c (.int .i64 0)),none⟩::⟨some 25,.ld 1 false (.t 24),none⟩::⟨some 26,.iaA 2 1 (.t 7) (.c (.int .i64 1)),none⟩::⟨some 27,.ld 1 false (.t 26),none⟩::⟨some 28,.call (.c (.fn 81 [])) [(.t 23),(.t 25),(.t 27)],none⟩::⟨none,.st 2 (.t 6) (.t 28),none⟩::[])) .ret))))
theorem cd_block_Piece : Code1 Tryz.prog 53 29 ir_block_Piece [.c 2 true 6]:=⟨Tryz.call53,_,_,Tryz.func53,rfl,by kernel_rfl,by kernel_rfl,by kernel_rfl,by kernel_rfl⟩
set_option maxHeartbeats 4000000 in
theorem fs_Piece {n k i : Int} {W : List (Int × Int)} (hV : OkV n W) (hn : n <= 4096) (hl : W.length <= 400000000) (hk1 : 1 <= k) (hk2 : k <= 8) (h0 : 0 <= i) (h1 : i < k) : FS Tryz.prog 53 [VC n W,.int .i64 k,.int .i64 i] (VC (szI n k i) (bW n k i W)):=by
  refine fs_of_cvc mixed cd_block_Piece (by simp) ?_
  have c2:=fs_vRight n W (by omega)
  rw [hV.isV] at c2
  have c3:=fs_bgrid (r:=k) (c:=1) (i:=i) (j:=0) ⟨hk1,hk2,by omega,by omega,h0,h1,by omega,by omega⟩
  have c4:=fs_bbounds n k i (by omega)
  have b1:=low_bd n k i
  have b2:=low_bd n k (i + 1)
  have c5:=fs_vPart n W (lowI n k i) (lowI n k (i + 1)) hl (by unfold I64; omega) (by unfold I64; omega)
  rw [hV.sn,hV.sl,ptR_bW ⟨hV.n0,hn⟩ hk1 hk2 h0 h1] at c5
  simp only at c5
  generalize lowI n k i = x1 at *
  generalize lowI n k (i + 1) = x2 at *
  generalize bW n k i W = B at *
  generalize szI n k i = z at *
  repeat' (conv=>whnf); first |(refine Or.inl ⟨by rfl,_,c2,?_⟩) |(refine Or.inl ⟨by rfl,_,c3,?_⟩) |(refine Or.inl ⟨by rfl,_,c4,?_⟩) |(refine Or.inl ⟨by rfl,_,c5,?_⟩) |(exact rfl) |((refine And.intro ?_ ?_; focus ((repeat' (first | exact trivial | exact rfl | (refine And.intro ?_ ?_) | omega | exact Nat.le_of_ble_eq_true rfl | ((conv=>whnf); first | exact trivial | exact rfl | (refine And.intro ?_ ?_)))); done))) | refine Br.ff ?_ | fail
  all_goals first | exact rfl | exact trivial | exact ⟨rfl,rfl,trivial⟩
def ppS (R rows : Int) (L : List Tri) (W : List (Int × Int)) : List (Int × Int):=sumsL (fun i=>rowO R (gt W) (rowL (stB rows L) (L.map fun x=>x.2.1) (L.map fun x=>x.2.2) i)) (askL rows [] true)
theorem fo_pushed {R rows cols : Int} (hR : isR R = true) {L : List Tri} (hT : OkT rows cols L) (hL : L.length <= 60) (hi : ∀ x ∈ L,I64 x.2.2) {W : List (Int × Int)} (hV : OkV cols W) (hWl : W.length <= 60) (hWi : ∀ x ∈ W,I64 x.2) :
    FO Tryz.prog 54 [.int .i64 R,DX rows cols (jcN (turnT L) (turnT L).length).1 (jcN (turnT L) (turnT L).length).2 ((turnT L).map fun x=>x.2.1) ((turnT L).map fun x=>x.2.2),VC cols W,.nils,.bool true]
      (.tup [.osl 0 3 0 (ppS R rows L W).length,.int .i64 0]) [.arr 3 (sms (ppS R rows L W))]:=by
  have hT':=hT.turn
  have h0 : ∀ y ∈ turnT L,0 <= y.1:=fun y hy=>(hT'.inr y hy).1
  have hr:=hT.r
  have hbd : ∀ a,(colT (turnT L) a).length <= 60:=fun a=>by
    have:=colT_bd (L:=turnT L) a
    rw [turnT_len] at this; omega
  have hci : ∀ a,∀ y ∈ colT (turnT L) a,0 <= y.1 /\ y.1 <= 1000000 /\ I64 y.2:=fun a y hy=>by
    obtain ⟨x,hx,rfl⟩:=colT_of hy
    have h1:=hT'.inr x hx
    have h2:=hi _ (turn_of hx)
    exact ⟨h1.2.2.1,by simp only; omega,h2⟩
  have q:=fo_puSums R hR (okC_of hT') hV (by omega) [] (fun x hx=>by cases hx) true (CC:=colT (turnT L)) (fun x hx=>(col_of hT' x.1 (hV.lo x hx).1).1) hWi (fun x _=>by have:=hbd x.1; omega) (fun x _=>hci x.1) (fun x _=>up_risC (colR_up (colT_up hT'.rise h0 x.1)))
    (fun x hx y hy=>by
      obtain ⟨z,hz,rfl⟩:=colR_mem hy
      exact rMul_w (hci x.1 z hz).2.2 (hWi x hx))
    (by
      have h1 : ∀ l ∈ colsP R [] true (colT (turnT L)) W,l.length <= 60:=fun l hl=>by
        unfold colsP at hl
        obtain ⟨s,_,rfl⟩:=List.mem_map.1 hl
        have:=colR_le R s.2 [] true (colT (turnT L) s.1)
        have:=hbd s.1
        omega
      have h2:=tw_in h1 _ (Nat.le_refl _)
      have h3 : (colsP R [] true (colT (turnT L)) W).length = W.length:=by unfold colsP; rw [List.length_map]
      rw [h3] at h2 ⊢
      omega)
  rw [push_pull hT hV [] true] at q
  exact fo_le q ⟨rfl,rfl,rfl,rfl,rfl,trivial⟩
theorem fs_pushed {R rows cols : Int} (hR : isR R = true) {L : List Tri} (hT : OkT rows cols L) (hL : L.length <= 60) (hi : ∀ x ∈ L,I64 x.2.2) {W : List (Int × Int)} (hV : OkV cols W) (hWl : W.length <= 60) (hWi : ∀ x ∈ W,I64 x.2) :
    FS Tryz.prog 54 [.int .i64 R,DX rows cols (jcN (turnT L) (turnT L).length).1 (jcN (turnT L) (turnT L).length).2 ((turnT L).map fun x=>x.2.1) ((turnT L).map fun x=>x.2.2),VC cols W,.nils,.bool true]
      (.tup [SM (ppS R rows L W),.int .i64 0]):=fs_of_fo (fo_pushed hR hT hL hi hV hWl hWi) (fz_sm _)
end
end Go.Proofs.YtelbhbadkbcakaaGreat
