/- Dense vectors: of items; parts; the document's functions. Dense vectors: the document's functions. Dense vectors: the document's functions, the others. Dense vectors: what the laws call; the first laws. -/
import Derived.Test.YtelbhbadkbcakaaGreatD2
namespace Go.Proofs.YtelbhbadkbcakaaGreat
section
open Go.RowKit
attribute [local irreducible] FS FO IT HS
theorem OkV.clip {n : Int} {l : List (Int × Int)} (h : OkV n l) : clipN n = n:=by have:=h.n0; have:=h.n1; unfold clipN; rw [if_neg (by omega)]
theorem ib_pls {l : List (Int × Int)} {n : Int} (h : OkV n l) : ∀ x ∈ plsI l,-9223372036854775808 <= x /\ x <= 9223372036854775807:=fun x hx=>by
  obtain ⟨y,hy,rfl⟩:=List.mem_map.1 hx
  have:=h.lo y hy
  have:=h.n1
  omega
theorem plsI_len (l : List (Int × Int)) : (plsI l).length = l.length:=by simp [plsI]
def ir_devec_Of : IR :=
(.seq (.reg (⟨some 1,.bx (.t 0),none⟩::⟨some 2,.al [.int .i64 0,.nils,.nils],none⟩::[])) (.seq (.seq (.reg (⟨some 6,.ld 2 true (.t 1),none⟩::⟨some 7,.call (.c (.fn 21 [])) [(.t 6)],none⟩::⟨some 8,.un .not (.t 7),none⟩::[])) (.cond (.t 8) (.seq (.reg (⟨some 9,.call (.c (.fn 70 [])) [(.c (.int .i64 0))],none⟩::⟨none,.st 3 (.t 2) (.t 9),none⟩::[])) .ret) .skip)) (.seq (.reg (⟨some 10,.fa 0 (.t 1),none⟩::⟨some 11,.ld 1 false (.t 10),none⟩::⟨some 12,.call (.c (.fn 70 [])) [(.t 11)],none⟩::⟨some 3,.al [.int .i64 0,.nils,.nils],none⟩::⟨none,.st 3 (.t 3) (.t 12),none⟩::[])) (.seq (.seq (.reg (⟨some 13,.fa 1 (.t 1),none⟩::⟨some 14,.ld 1 false (.t 13),none⟩::⟨some 15,.ln (.t 14),none⟩::⟨some 16,.mv (.c (.int .i64 0)),none⟩::[])) (.block 0 (.loop (.seq (.reg (⟨some 17,.bin .lss (.t 16) (.t 15),none⟩::[])) (.seq (.cond (.t 17) .skip (.exit 0)) (.seq (.block 1 (.seq (.reg (⟨some 18,.ia 2 (.t 14) (.t 16),none⟩::⟨some 19,.ld 2 true (.t 18),none⟩::⟨some 5,.al [.int .i64 0,.int .i64 0],none⟩::⟨none,.st 2 (.t 5) (.t 19),none⟩::[])) (.reg (⟨some 20,.fa 2 (.t 3),none⟩::⟨some 21,.ld 1 false (.t 20),none⟩::⟨some 22,.fa 0 (.t 5),none⟩::⟨some 23,.ld 1 false (.t 22),none⟩::⟨some 24,.fa 1 (.t 5),none⟩::⟨some 25,.ld 1 false (.t 24),none⟩::⟨some 26,.ia 1 (.t 21) (.t 23),none⟩::⟨none,.st 1 (.t 26) (.t 25),none⟩::[])))) (.reg (⟨some 27,.bin .add (.t 16) (.c (.int .i64 1)),none⟩::⟨some 16,.mv (.t 27),none⟩::[])))))))) (.seq (.draw (⟨some 28,.fa 0 (.t 1),none⟩::⟨some 29,.ld 1 false (.t 28),none⟩::⟨some 30,.ld 2 true (.t 1),none⟩::⟨some 31,.call (.c (.fn 63 [])) [(.t 30)],none⟩::[]) (⟨some 32,.call (.c (.fn 71 [])) [(.t 29),(.t 31)],none⟩::⟨some 33,.fa 1 (.t 3),none⟩::⟨none,.st 1 (.t 33) (.t 32),none⟩::[])) (.seq (.reg (⟨some 34,.ld 3 true (.t 3),none⟩::⟨none,.st 3 (.t 2) (.t 34),none⟩::[])) .ret))))))
theorem cd_devec_Of : Code1 Tryz.prog 36 35 ir_devec_Of [.c 3 true 2]:=⟨Tryz.call36,_,_,Tryz.func36,rfl,by kernel_rfl,by kernel_rfl,by kernel_rfl,by kernel_rfl⟩
set_option maxHeartbeats 4000000 in
theorem fs_dOf (n : Int) (l : List (Int × Int)) (hl : l.length <= 400000000) : FS Tryz.prog 36 [VC n l] (dV (sn n l) (sl n l)):=by
  refine fs_of_cvc mixed cd_devec_Of (by simp) ?_
  have c1:=fs_vRight n l (by omega)
  have c0 : FS Tryz.prog 70 [.int .i64 0] (DV 0 [] []):=fs_dNew 0
  cases h : isV n l with
  | false =>
    rw [h] at c1
    rw [show sn n l = 0 by unfold sn; rw [h]; rfl,show sl n l = [] by unfold sl; rw [h]; rfl]
    repeat' (conv=>whnf); first |(refine Or.inl ⟨by rfl,_,c1,?_⟩) |(refine Or.inl ⟨by rfl,_,c0,?_⟩) |(refine And.intro (show _ <= _ from Nat.le_of_ble_eq_true rfl) ?_) | refine Br.tt ?_ | refine And.intro rfl ?_ | fail
    first | exact rfl | exact trivial | exact ⟨rfl,trivial⟩
  | true =>
    rw [h] at c1
    have hok : OkV n l:=by
      have:=okV n l
      rwa [show sn n l = n by unfold sn; rw [h]; rfl,show sl n l = l by unfold sl; rw [h]; rfl] at this
    rw [hok.sn,hok.sl]
    have hal:=its_len l
    have hle:=hok.le
    have hn0:=hok.n0
    have hn1:=hok.n1
    have c2:=fo_dNew n
    rw [hok.clip] at c2
    have c3:=fs_vPlaces n l hl
    rw [hok.sl] at c3
    have c4:=fs_Of n (by omega) (by omega) (plsI l) (by rw [plsI_len]; omega) (ib_pls hok)
    repeat' (conv=>whnf); first |(refine Or.inl ⟨by rfl,_,c1,?_⟩) |(refine Or.inr (Or.inl ⟨by rfl,_,_,c2,?_⟩)) |(refine And.intro (show _ <= _ from Nat.le_of_ble_eq_true rfl) ?_) | refine Br.ff ?_ | refine And.intro rfl ?_ | fail
    refine ⟨Nat,fun k=>k <= l.length,fun k=>[(1,.ptr 0 0 0 0),(2,.ptr 1 0 0 0),(3,.ptr 4 0 0 0),(14,IL l),(15,.int .i64 (l.length : Int)),(16,.int .i64 (k : Int))],
      fun k=>[.vars [.int .i64 n,IL l],.vars [.int .i64 0,.nils,.nils],.arr 1 (uw (List.replicate (wordsI n) 0)),.arr 1 (zs (setsV (List.replicate n.toNat 0) (l.take k))),.vars [.int .i64 n,.osl 2 1 0 (wordsI n),.osl 3 1 0 n.toNat]],fun _=>none,fun k=>l.length - k,
      ⟨0,Nat.zero_le _,⟨rfl,rfl,rfl,rfl,?_,rfl,trivial⟩,⟨⟨rfl,rfl,trivial⟩,⟨rfl,rfl,rfl,trivial⟩,rfl,rfl,⟨rfl,rfl,rfl,trivial⟩,trivial⟩,rfl⟩,fun k hk=>?_⟩
    . exact congrArg (SV.int .i64) (congrArg Int.ofNat hal)
    have hk : k <= l.length:=hk
    have hsl : (setsV (List.replicate n.toNat 0) (l.take k)).length = n.toNat:=by rw [setsV_len,List.length_replicate]
    by_cases hkl : k < l.length
    . obtain ⟨x,hx⟩ : ∃ x,l.getD k (0,0) = x:=⟨_,rfl⟩
      have hxk : l[k]? = some x:=by rw [<- hx]; simp [hkl]
      have hxb:=hok.lo x (List.mem_of_getElem? hxk)
      repeat' (conv=>whnf); first |(refine its_go' (i:=k) (by omega) hx ?_) |(refine ⟨_,zs_one (i:=x.1.toNat) (by omega) (by omega),?_⟩) |(refine And.intro (show _ <= _ from Nat.le_of_ble_eq_true rfl) ?_) |(refine Br.dec (fun h=>?_) (fun h=>?_)) <;> try (exfalso; omega) | refine And.intro rfl ?_ |(refine And.intro (by omega) ?_) |(refine ⟨_,Or.inl ⟨⟨by omega,by omega⟩,rfl⟩,?_⟩) | fail
      refine ⟨k + 1,(show k + 1 <= l.length by omega),(show l.length - (k + 1) < l.length - k by omega),⟨rfl,rfl,rfl,rfl,rfl,rfl,trivial⟩,⟨⟨rfl,rfl,trivial⟩,⟨rfl,rfl,rfl,trivial⟩,rfl,?_,⟨rfl,rfl,rfl,trivial⟩,⟨(show 5 <= 5 by omega),rfl,rfl⟩⟩,rfl⟩
      show Blk.arr 1 ((zs (setsV (List.replicate n.toNat 0) (l.take k))).set (0 + x.1.toNat) [.int .i64 x.2]) = _
      rw [Nat.zero_add,zs_set,setsV_more hxk]
    . obtain rfl : k = l.length:=by omega
      repeat' (conv=>whnf); first |(refine Or.inl ⟨by rfl,_,c3,?_⟩) |(refine Or.inl ⟨by rfl,_,c4,?_⟩) |(refine And.intro (show _ <= _ from Nat.le_of_ble_eq_true rfl) ?_) |(refine Br.dec (fun h=>?_) (fun h=>?_)) <;> try (exfalso; omega) | refine And.intro rfl ?_ |(refine And.intro (by simp only [zs_len]; first | done | omega) ?_) | fail
      conv=>whnf
      rw [show List.take l.length l = l from List.take_length,setsV_to hok,frz_zl (by unfold toL; rw [tab_len])]
      rfl
/-! ### Parts -/
def ptR (n : Int) (l : List (Int × Int)) (p q : Int) : Int × List (Int × Int):=if min q n <= max p 0 then (0,[]) else (min q n - max p 0,ptI (max p 0) (min q n) l)
end
section
open Go.RowKit
attribute [local irreducible] FS FO IT HS
end
section
open Go.RowKit
attribute [local irreducible] FS FO IT HS
end
section
open Go.RowKit
attribute [local irreducible] FS FO IT HS
section
variable {n : Int} {l : List (Int × Int)} (h : OkV n l)
include h
theorem OkV.i64 : I64 n:=by have:=h.n0; have:=h.n1; unfold I64; omega
theorem dl_f : (toF n l).length <= 1000000:=by have:=(okD_to h).len; omega
theorem dl_v : (toL n l).length <= 1000000:=by have:=(okD_to h).vl; have:=h.n1; omega
theorem fv_Back : FS Tryz.prog 64 [dV n l] (VC n l):=by
  have:=fs_dBack n (toF n l) (toL n l) h.i64 (okD_to h).wd (dl_f h) (dl_v h)
  rwa [(okD_to h).dS,bk_to h] at this
end
theorem okV_nil {n : Int} (h0 : 0 <= n) (h1 : n <= 4096) : OkV n []:=⟨h0,h1,.nil,fun x hx=>by cases hx⟩
end
end Go.Proofs.YtelbhbadkbcakaaGreat
