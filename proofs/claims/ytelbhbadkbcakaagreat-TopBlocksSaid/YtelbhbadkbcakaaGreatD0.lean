/- Dense vectors: which are right; new ones; copies. Dense vectors: what they are as items, and back (plain laws). -/
import Derived.Test.YtelbhbadkbcakaaGreatV5
namespace Go.Proofs.YtelbhbadkbcakaaGreat
section
open Go.RowKit
attribute [local irreducible] FS FO IT HS
def DV (n : Int) (f : List Nat) (v : List Int) : SV:=.agg [.int .i64 n,U f,Z v]
theorem zs_rep (k : Nat) (a : Int) : zs (List.replicate k a) = List.replicate k [.int .i64 a]:=by simp [zs]
def clipN (n : Int) : Int:=if n < 0 \/ 4096 < n then 0 else n
theorem clipN_bd (n : Int) : 0 <= clipN n /\ clipN n <= 4096:=by unfold clipN; split <;> omega
def ir_devec_New : IR :=
(.seq (.reg (⟨some 2,.al [.int .i64 0,.nils,.nils],none⟩::[])) (.seq (.seq (.reg (⟨some 3,.mv (.t 0),none⟩::⟨some 4,.bin .lss (.t 3) (.c (.int .i64 0)),none⟩::⟨some 5,.mv (.t 4),none⟩::⟨some 6,.mv (.t 0),some (5,false)⟩::⟨some 7,.bin .gtr (.t 6) (.c (.int .i64 4096)),some (5,false)⟩::⟨some 8,.pick (.t 5) (.c (.bool true)) (.t 7),none⟩::[])) (.cond (.t 8) (.reg (⟨some 0,.mv (.c (.int .i64 0)),none⟩::[])) .skip)) (.seq (.draw (⟨some 9,.mv (.t 0),none⟩::⟨some 10,.mv (.t 0),none⟩::⟨some 11,.call (.c (.fn 101 [])) [(.t 10)],none⟩::⟨some 12,.mv (.t 0),none⟩::⟨some 13,.mk 1 8 [.int .i64 0] (.t 12) (.t 12),none⟩::[]) (⟨some 14,.bld [.int .i64 0,.nils,.nils] [(0,1,(.t 9)),(1,1,(.t 11)),(2,1,(.t 13))],none⟩::⟨none,.st 3 (.t 2) (.t 14),none⟩::[])) .ret)))
theorem cd_devec_New : Code1 Tryz.prog 70 15 ir_devec_New [.c 3 true 2]:=⟨Tryz.call70,_,_,Tryz.func70,rfl,by kernel_rfl,by kernel_rfl,by kernel_rfl,by kernel_rfl⟩
theorem fo_dNew (n : Int) : FO Tryz.prog 70 [.int .i64 n] (.agg [.int .i64 (clipN n),.osl 0 1 0 (wordsI (clipN n)),.osl 1 1 0 (clipN n).toNat]) [.arr 1 (uw (List.replicate (wordsI (clipN n)) 0)),.arr 1 (zs (List.replicate (clipN n).toNat 0))]:=by
  refine fo_of_cvc mixed cd_devec_New (by simp) ?_
  have hb:=clipN_bd n
  have c:=fo_New (clipN n) (by omega) (by omega)
  have fin : ∀ H : List Blk,H[1]? = some (.arr 1 (uw (List.replicate (wordsI (clipN n)) 0))) -> H[2]? = some (.arr 1 (List.replicate (clipN n).toNat [.int .i64 0])) -> FoP H (.agg [.int .i64 (clipN n),.osl 1 1 0 (wordsI (clipN n)),.osl 2 1 0 (clipN n).toNat]) (.agg [.int .i64 (clipN n),.osl 0 1 0 (wordsI (clipN n)),.osl 1 1 0 (clipN n).toNat]) [.arr 1 (uw (List.replicate (wordsI (clipN n)) 0)),.arr 1 (zs (List.replicate (clipN n).toNat 0))]:=fun H h1 h2 =>
    Or.inr (Or.inr (FoS.two 1 2 (by omega) (MatL.agg (.cons (.same _ rfl) (.cons (.osl 0 1 1 0 _ rfl) (.cons (.osl 1 2 1 0 _ rfl) .nil)))) h1 (by rw [h2,zs_rep]) rfl rfl))
  by_cases h : n < 0 \/ 4096 < n
  . have e : clipN n = 0:=if_pos h
    rw [e] at c fin ⊢
    repeat' (conv=>whnf); first |(refine Or.inr (Or.inl ⟨by rfl,_,_,c,?_⟩)) |(refine And.intro (show _ <= _ from Nat.le_of_ble_eq_true rfl) ?_) | refine Br.tt ?_ | refine Br.ff ?_ |(refine Br.dec (fun h=>?_) (fun h=>?_)) <;> try (exfalso; omega) | refine And.intro rfl ?_ |(refine And.intro (by omega) ?_) | fail
    all_goals exact fin _ rfl rfl
  . have e : clipN n = n:=if_neg h
    rw [e] at c fin ⊢
    repeat' (conv=>whnf); first |(refine Or.inr (Or.inl ⟨by rfl,_,_,c,?_⟩)) |(refine And.intro (show _ <= _ from Nat.le_of_ble_eq_true rfl) ?_) | refine Br.ff ?_ |(refine Br.dec (fun h=>?_) (fun h=>?_)) <;> try (exfalso; omega) | refine And.intro rfl ?_ |(refine And.intro (by omega) ?_) | fail
    all_goals exact fin _ rfl rfl
end
section
open Go.RowKit
attribute [local irreducible] FS FO IT HS
def dR (n : Int) (f : List Nat) (v : List Int) : Bool:=rightB f n && (decide ((v.length : Int) = n) && (List.range v.length).all fun (i : Nat)=>hasI f (i : Int) || v.getD i 0 == 0)
structure OkD (n : Int) (f : List Nat) (v : List Int) : Prop where
  n0 : 0 <= n
  n1 : n <= 4096
  wd : Wd f
  fl : f.length = wordsI n
  top : ∀ i : Nat,hasN f i = true -> (i : Int) < n
  vl : (v.length : Int) = n
  ze : ∀ i : Nat,i < v.length -> hasN f i = false -> v.getD i 0 = 0
theorem hasN_out {f : List Nat} {i : Nat} (h : 64 * f.length <= i) : hasN f i = false:=by
  unfold hasN
  rw [List.getD_eq_getElem?_getD,List.getElem?_eq_none (by omega)]
  simp
theorem hasI_nat (f : List Nat) (i : Nat) : hasI f (i : Int) = hasN f i:=by simp [hasI]
theorem rightB_top {f : List Nat} (hw : Wd f) {n : Int} : (nextI f n < 0) ↔ ∀ i : Nat,hasN f i = true -> (i : Int) < n:=by
  rw [nextI_neg]
  constructor
  . intro h i hi
    refine h i ((bits_mem hw).2 ⟨?_,hi⟩)
    rcases Nat.lt_or_ge i (64 * f.length) with h' | h'
    . exact h'
    . rw [hasN_out h'] at hi; cases hi
  . intro h b hb
    exact h b ((bits_mem hw).1 hb).2
theorem okD_of {n : Int} {f : List Nat} {v : List Int} (hw : Wd f) (h : dR n f v = true) : OkD n f v:=by
  unfold dR rightB at h
  simp only [Bool.and_eq_true,decide_eq_true_eq,List.all_eq_true,List.mem_range,Bool.or_eq_true,beq_iff_eq] at h
  obtain ⟨⟨h1,h2,h3,h4⟩,h5,h6⟩:=h
  refine ⟨h1,h2,hw,by omega,(rightB_top hw).1 h4,h5,fun i hi hf=>?_⟩
  rcases h6 i hi with h | h
  . rw [hasI_nat,hf] at h; cases h
  . exact h
theorem OkD.right {n : Int} {f : List Nat} {v : List Int} (h : OkD n f v) : dR n f v = true:=by
  unfold dR rightB
  simp only [Bool.and_eq_true,decide_eq_true_eq,List.all_eq_true,List.mem_range,Bool.or_eq_true,beq_iff_eq]
  refine ⟨⟨h.n0,h.n1,by rw [h.fl],(rightB_top h.wd).2 h.top⟩,h.vl,fun i hi=>?_⟩
  rw [hasI_nat]
  cases hh : hasN f i with
  | true=>exact .inl rfl
  | false=>exact .inr (h.ze i hi hh)
theorem okD_zero : OkD 0 [] []:=by
  refine ⟨by omega,by omega,?_,by decide,fun i h=>?_,rfl,fun i h=>?_⟩
  . intro x hx; cases hx
  . rw [hasN_out (by simp)] at h; cases h
  . simp at h
theorem OkD.len {n : Int} {f : List Nat} {v : List Int} (h : OkD n f v) : f.length <= 64:=by
  rw [h.fl]; unfold wordsI; omega
def dS (n : Int) (f : List Nat) (v : List Int) : Int × List Nat × List Int:=if dR n f v = true then (n,f,v) else (0,[],[])
theorem okD_dS (n : Int) {f : List Nat} (v : List Int) (hw : Wd f) : OkD (dS n f v).1 (dS n f v).2.1 (dS n f v).2.2:=by
  unfold dS
  split
  . rename_i h; exact okD_of hw h
  . exact okD_zero
theorem OkD.dS {n : Int} {f : List Nat} {v : List Int} (h : OkD n f v) : dS n f v = (n,f,v):=if_pos h.right
def dG (f : List Nat) (v : List Int) (k : Int) : Option Int:=if hasI f k = true then some (v.getD k.toNat 0) else none
def bkL (f : List Nat) (v : List Int) : List (Int × Int):=(bits f).map fun (i : Nat)=>((i : Int),v.getD i 0)
theorem up_bkL {f : List Nat} (hw : Wd f) (v : List Int) : Up (bkL f v):=by
  refine List.pairwise_map.2 ((bits_sorted hw).imp fun {x y} h=>?_)
  show (x : Int) < (y : Int)
  omega
theorem gt_bkL {f : List Nat} (hw : Wd f) (v : List Int) (k : Int) : gt (bkL f v) k = dG f v k:=by
  unfold dG
  by_cases h : hasI f k = true
  . rw [if_pos h]
    have h0 : 0 <= k:=by unfold hasI at h; rw [Bool.and_eq_true,decide_eq_true_eq] at h; exact h.1
    obtain ⟨n,rfl⟩ : ∃ n : Nat,k = n:=⟨k.toNat,by omega⟩
    rw [hasI_nat] at h
    have hm : n ∈ bits f:=by
      refine (bits_mem hw).2 ⟨?_,h⟩
      rcases Nat.lt_or_ge n (64 * f.length) with h' | h'
      . exact h'
      . rw [hasN_out h'] at h; cases h
    exact gt_some (up_bkL hw v) (x:=((n : Int),v.getD n 0)) (List.mem_map.2 ⟨n,hm,rfl⟩)
  . rw [if_neg h]
    refine gt_none fun x hx e=>h ?_
    obtain ⟨n,hn,rfl⟩:=List.mem_map.1 hx
    simp only at e
    rw [<- e,hasI_nat]
    exact ((bits_mem hw).1 hn).2
theorem okV_bkL {n : Int} {f : List Nat} {v : List Int} (h : OkD n f v) : OkV n (bkL f v):=by
  refine ⟨h.n0,h.n1,up_bkL h.wd v,fun x hx=>?_⟩
  obtain ⟨i,hi,rfl⟩:=List.mem_map.1 hx
  exact ⟨by show (0 : Int) <= (i : Int); omega,h.top i ((bits_mem h.wd).1 hi).2⟩
def plsI (l : List (Int × Int)) : List Int:=l.map (·.1)
def toF (n : Int) (l : List (Int × Int)) : List Nat:=ofN n (plsI l)
def toL (n : Int) (l : List (Int × Int)) : List Int:=tab n.toNat fun i=>(gt l (i : Int)).getD 0
theorem hasN_toF {n : Int} {l : List (Int × Int)} (h : OkV n l) (i : Nat) : hasN (toF n l) i = (gt l (i : Int)).isSome:=by
  unfold toF ofN
  rw [hasN_puts,hasN_zero,Bool.false_or,List.length_replicate,Bool.eq_iff_iff,Bool.and_eq_true,decide_eq_true_eq,List.any_eq_true]
  constructor
  . rintro ⟨_,y,hy,he⟩
    obtain ⟨z,hz,rfl⟩:=List.mem_map.1 hy
    rw [beq_iff_eq] at he
    split at he
    . have:=Option.some.inj he
      rw [<- this,gt_some h.up hz]; rfl
    . cases he
  . intro hs
    obtain ⟨v,hv⟩:=Option.isSome_iff_exists.1 hs
    have hm:=gt_mem hv
    have hl:=h.lo _ hm
    have:=h.n1
    refine ⟨by unfold wordsI; simp only at hl; omega,(i : Int),List.mem_map.2 ⟨_,hm,rfl⟩,?_⟩
    rw [beq_iff_eq]
    exact if_pos hl.2
theorem okD_to {n : Int} {l : List (Int × Int)} (h : OkV n l) : OkD n (toF n l) (toL n l):=by
  have hn0:=h.n0
  refine ⟨h.n0,h.n1,puts_wd _ _ _ (wd_zero _),by unfold toF ofN; rw [puts_len,List.length_replicate],fun i hi=>?_,by unfold toL; rw [tab_len]; omega,fun i hi hf=>?_⟩
  . rw [hasN_toF h] at hi
    obtain ⟨v,hv⟩:=Option.isSome_iff_exists.1 hi
    exact (h.lo _ (gt_mem hv)).2
  . unfold toL at hi ⊢
    rw [tab_len] at hi
    rw [List.getD_eq_getElem?_getD,tab_get _ hi]
    rw [hasN_toF h] at hf
    cases hg : gt l (i : Int) with
    | none=>rfl
    | some v=>rw [hg] at hf; cases hf
theorem dG_to {n : Int} {l : List (Int × Int)} (h : OkV n l) (k : Int) : dG (toF n l) (toL n l) k = gt l k:=by
  unfold dG
  by_cases h0 : 0 <= k
  . obtain ⟨i,rfl⟩ : ∃ i : Nat,k = i:=⟨k.toNat,by omega⟩
    rw [hasI_nat,hasN_toF h]
    cases hg : gt l (i : Int) with
    | none=>rfl
    | some v =>
      have:=h.lo _ (gt_mem hg)
      simp only at this
      rw [if_pos (show (some v).isSome = true from rfl),Int.toNat_natCast]
      unfold toL
      rw [List.getD_eq_getElem?_getD,tab_get _ (by omega),hg]; rfl
  . have : hasI (toF n l) k = false:=by unfold hasI; rw [decide_eq_false h0]; rfl
    rw [this,if_neg (by simp),h.out (by omega)]
theorem bk_to {n : Int} {l : List (Int × Int)} (h : OkV n l) : bkL (toF n l) (toL n l) = l :=
  up_ext (up_bkL (okD_to h).wd _) h.up fun k=>by rw [gt_bkL (okD_to h).wd,dG_to h]
end
end Go.Proofs.YtelbhbadkbcakaaGreat
