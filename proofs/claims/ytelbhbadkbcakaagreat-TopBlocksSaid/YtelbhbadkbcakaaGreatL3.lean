/- A map of slices of sums by two places: what its operations do. The operations on a map of sums are sound; the contract of a function that hands over such a map. -/
import Derived.Test.YtelbhbadkbcakaaGreatL2
import Derived.Maps.OwnSet
import Derived.Maps.Ext
import Derived.Carry
import Derived.WideKeyPair
import Derived.DeepKeys4
namespace Go.Proofs.YtelbhbadkbcakaaGreat
section
open Go.RowKit Go.Maps Go.Sort Go.MapKept Go.ChangeMaps Go.WideMaps
attribute [local irreducible] FS FO IT HS
theorem kt_arr : ArrKey Tryz.prog 69 3 2:=⟨Tryz.underlying69,by kernel_rfl,by kernel_rfl,by kernel_rfl⟩
theorem kt_laid : laidOutB Tryz.prog = true:=by kernel_rfl
theorem kt_keyed : Keyed Tryz.prog 69:=Keyed.of_law (deep_law_laid kt_laid (m:=2) (by omega) (of_decide_eq_true (by kernel_rfl)) (by kernel_rfl) (by rw [Tryz.underlying69]))
theorem mt_under : Tryz.prog.underlying 73 = some (.map 69 43):=by kernel_rfl
theorem et_zero (w : World) : (zeroValue 43).run Tryz.prog w = .ok (.slice none 0 0) w:=by kernel_rfl
theorem kt_size : ∃ m,Tryz.prog.types.size = m + 1:=⟨Tryz.prog.types.size - 1,by have : 0 < Tryz.prog.types.size:=of_decide_eq_true (by kernel_rfl); omega⟩
def klit (i j : Int) : Lit:=.string (keyBytes [.int .i64 i,.int .i64 j])
theorem wf_i {i : Int} (h : I64 i) : (Lit.int .i64 i).wf = true:=by
  unfold I64 at h
  simp [Lit.wf,IntKind.min,IntKind.max,IntKind.signed,IntKind.bits]
  omega
theorem key_of {i j : Int} (hi : I64 i) (hj : I64 j) : keyOf Tryz.prog 69 (.agg #[.int .i64 i,.int .i64 j]) = some (klit i j):=keyOf_pair kt_arr (by rw [Tryz.underlying3]) kt_size (wf_i hi) (wf_i hj)
theorem klit_inj {i j i' j' : Int} (h1 : I64 i) (h2 : I64 j) (h3 : I64 i') (h4 : I64 j') (e : klit i j = klit i' j') : (i,j) = (i',j'):=by
  have e' : keyBytes [.int .i64 i,.int .i64 j] = keyBytes [.int .i64 i',.int .i64 j']:=by injection e
  have:=keyBytes_inj (by simp [Alike,Lit.sameKind]) (fun a ha=>by
    simp at ha
    rcases ha with rfl | rfl
    . exact wf_i h1
    . exact wf_i h2) (fun a ha=>by
    simp at ha
    rcases ha with rfl | rfl
    . exact wf_i h3
    . exact wf_i h4) e'
  simpa using this
abbrev Ent:=(Int × Int) × List (Int × Int)
def lookE (E : List Ent) (i j : Int) : List (Int × Int):=E.foldl (fun o x=>if x.1 = (i,j) then x.2 else o) []
theorem lookE_snoc (E : List Ent) (x : Ent) (i j : Int) : lookE (E ++ [x]) i j = if x.1 = (i,j) then x.2 else lookE E i j:=by
  unfold lookE; rw [List.foldl_append]; rfl
def rdV (v : Value) : Option (DataW Value × List MemPlace):=some (.held v,[])
def AgM (w : World) (A : Nat -> Prop) (E : List Ent) (D : DataW Value) : Prop:=IsMap D /\ ∀ i j,I64 i -> I64 j -> ∃ v,D.atKey (klit i j) (.held (.slice none 0 0)) = .held v /\ Rep w A [] (SM (lookE E i j)) v
theorem AgM.nil (w : World) (A : Nat -> Prop) : AgM w A [] (.map []):=⟨isMap_empty,fun _ _ _ _=>⟨_,rfl,.slcZ _ _ _⟩⟩
theorem AgM.mono {w w' : World} {A A' : Nat -> Prop} {E : List Ent} {D : DataW Value} (h : AgM w A E D) (s : Stp A w w') (hA : ∀ b,b < w.heap.size -> A' b -> A b) : AgM w' A' E D :=
  ⟨h.1,fun i j hi hj=>by
    obtain ⟨v,h1,h2⟩:=h.2 i j hi hj
    exact ⟨v,h1,h2.mono s hA⟩⟩
theorem AgM.step {w w' : World} {A A' : Nat -> Prop} {E : List Ent} {D : DataW Value} (h : AgM w A E D) (s : Stp A w w') (hA : ∀ b,b < w.heap.size -> A' b -> A b) {i j : Int} {S : List (Int × Int)} {v : Value} (hi : I64 i) (hj : I64 j) (hv : Rep w' A' [] (SM S) v) :
    AgM w' A' (E ++ [((i,j),S)]) (D.put (klit i j) (.held v)):=by
  refine ⟨h.1.put _ _,fun i' j' hi' hj'=>?_⟩
  rw [lookE_snoc]
  by_cases e : (i,j) = (i',j')
  . cases e
    rw [if_pos rfl]
    exact ⟨v,atKey_put_same h.1 (show WideAt.IsKeyLit (klit i j) by simp [WideAt.IsKeyLit,klit]) _ _,hv⟩
  . rw [if_neg e,atKey_put_other (fun h=>e (klit_inj hi' hj' hi hj h).symm)]
    exact (h.mono s hA).2 i' j' hi' hj'
def mapE (E : List Ent) (n0 : Nat) (A0 : Nat -> Prop) (g : Option Nat) (w : World) (A : Nat -> Prop) (β : List (Option Nat)) : Prop :=
  match g with
  | none=>n0 <= w.heap.size
  | some n=>¬ A0 (n / (E.length + 2)) /\ A (n / (E.length + 2)) /\ some (n / (E.length + 2)) ∉ β /\ ∃ D,AgM w A (E.take (n % (E.length + 2))) D /\ w.ownsMap Tryz.prog 69 rdV (n / (E.length + 2)) (n % (E.length + 2)) D
theorem ghost_div {K mb i : Nat} (h : i < K) : (mb * K + i) / K = mb /\ (mb * K + i) % K = i:=by
  constructor
  . rw [Nat.mul_comm,Nat.mul_add_div (by omega),Nat.div_eq_of_lt h,Nat.add_zero]
  . rw [Nat.mul_comm,Nat.mul_add_mod,Nat.mod_eq_of_lt h]
theorem ownsMap_same {w w' : World} {b n : Nat} {D : DataW Value} (h : w.ownsMap Tryz.prog 69 rdV b n D) (hb : w'.heap[b]? = w.heap[b]?) : w'.ownsMap Tryz.prog 69 rdV b n D:=by
  obtain ⟨es,clock,h1,h2⟩:=h
  exact ⟨es,clock,hb.trans h1,h2⟩
theorem ownsMap_lt {w : World} {b n : Nat} {D : DataW Value} (h : w.ownsMap Tryz.prog 69 rdV b n D) : b < w.heap.size:=by
  obtain ⟨es,clock,h1,h2⟩:=h
  exact heap_lt h1
theorem mapE_stab {E : List Ent} {n0 : Nat} {A0 : Nat -> Prop} {g : Option Nat} {w : World} {A : Nat -> Prop} {β : List (Option Nat)} {M : Nat} {ks : List Nat} {w2 : World} {A2 : Nat -> Prop} {β2 : List (Option Nat)} {H2 : List Blk} (hX : mapE E n0 A0 g w A β) (hnm : ∀ b,some b ∈ β -> A b) (hcur : Cur w A β M ks w2 A2 β2 H2) : mapE E n0 A0 g w2 A2 β2:=by
  cases g with
  | none=>exact Nat.le_trans (show n0 <= w.heap.size from hX) hcur.frm.size
  | some n =>
    obtain ⟨h0,hA,hnb,D,hag,hown⟩:=hX
    have hlt:=ownsMap_lt hown
    refine ⟨h0,(hcur.agree _ hlt).2 hA,fun hm=>?_,D,hag.mono (hcur.frm.stp fun k b hk=>hnm b (List.mem_of_getElem? hk)) fun b hb h=>(hcur.agree b hb).1 h,ownsMap_same hown (hcur.frm.keep _ hlt hnb)⟩
    obtain ⟨j,hj,he⟩:=List.getElem_of_mem hm
    exact hnb (hcur.fresh j _ (by simp [hj,he]) hlt)
theorem mapE_names {E : List Ent} {n0 : Nat} {A0 : Nat -> Prop} {g : Option Nat} {w : World} {A : Nat -> Prop} {β β2 : List (Option Nat)} (hs : ∀ b,some b ∈ β2 -> some b ∈ β /\ A b) (hX : mapE E n0 A0 g w A β) : mapE E n0 A0 g w A β2:=by
  cases g with
  | none=>exact hX
  | some n =>
    obtain ⟨h0,hA,hnb,D,hag,hown⟩:=hX
    exact ⟨h0,hA,fun hm=>hnb (hs _ hm).1,D,hag,hown⟩
theorem cop_oth {P : Program} {o o' : Oper} (h : cop P o = some (.oth o')) : o' = o:=by
  cases hop : o.op with
  | _ =>
    simp only [cop,hop] at h
    repeat' split at h
    all_goals first | (cases h; rfl) | (cases h; done) | (obtain ⟨_,_,h⟩:=Option.map_eq_some_iff.1 h; cases h; done) | (obtain ⟨_,_,h⟩:=Option.bind_eq_some_iff.1 h; split at h <;> cases h; done) | (obtain ⟨_,_,h⟩:=Option.bind_eq_some_iff.1 h; obtain ⟨_,_,h⟩:=Option.map_eq_some_iff.1 h; cases h)
theorem OthStep.refl {A0 : Nat -> Prop} {β : List (Option Nat)} {A : Nat -> Prop} {w : World} (h : ∀ b,A b -> b < w.heap.size) : OthStep A0 β A w A w:=⟨Stp.refl _ _,fun _ _ _=>rfl,fun _ _=>Iff.rfl,h⟩
theorem seal_cur {B0 A0 A : Nat -> Prop} {w0 w : World} {β : List (Option Nat)} {M : Nat} {ks : List Nat} {H : List Blk} (h : CurX B0 w0 A0 [] M ks w A β H) (k : Nat) : CurX B0 w0 A0 [] M ks w (fun c=>A c /\ β[k]? ≠ some (some c)) (β.set k none) ((killH k H).set k .dead):=by
  have hg : ∀ (i c : Nat),(β.set k none)[i]? = some (some c) -> i ≠ k /\ β[i]? = some (some c):=fun i c hi=>by
    obtain ⟨h1,h2⟩:=(unname_get [k] β i c).1 hi
    exact ⟨by simpa using h1,h2⟩
  refine ⟨⟨by simp [killH_length,h.rel.len],fun i j c hi hj=>h.rel.inj i j c (hg i c hi).2 (hg j c hj).2,fun i c hi=>?_,fun i o bk ho hbk=>?_⟩,fun c hc=>h.fin c hc.1,h.frm,fun c hc=>?_,fun i c hi hc=>h.fresh i c (hg i c hi).2 hc,fun i hi _=>by simp at hi,Nat.zero_le _,h.sub⟩
  . obtain ⟨h1,h2⟩:=hg i c hi
    have:=h.rel.own i c h2
    exact ⟨⟨this.1,fun e=>h1 (h.rel.inj i k c h2 e)⟩,this.2⟩
  . exact ((WB.unname1 k h.rel.wb).blk i o bk ho hbk).keep (Stp.refl _ _) (fun _ _ h=>h.1) (fun _ _ h=>h) fun _ _=>rfl
  . refine ⟨fun hc'=>(h.agree c hc).1 hc'.1,fun hc'=>⟨(h.agree c hc).2 hc',fun e=>?_⟩⟩
    have:=h.fresh k c e hc
    simp at this
theorem seal_rep {w : World} {A : Nat -> Prop} {β : List (Option Nat)} {H : List Blk} {k : Nat} {S : List (Int × Int)} {v : Value} (hW : WRel w A β H) (hk : H[k]? = some (.arr 3 (sms S))) (hr : Rep w A β (.osl k 3 0 S.length) v) : Rep w (fun c=>A c /\ β[k]? ≠ some (some c)) [] (SM S) v:=by
  obtain ⟨n,hn⟩ : ∃ n,S.length = n:=⟨_,rfl⟩
  rw [hn] at hr
  cases hr with
  | oslZ =>
    obtain rfl:=List.eq_nil_of_length_eq_zero hn
    exact .slcZ _ _ _
  | osl _ _ _ _ _ b cap hb hc hs =>
    subst hn
    obtain ⟨y,rfl,hf⟩:=frzK_sound (H:=H) 1 (.osl k 3 0 S.length) (fun y=>y = SM S) (by
      show match H[k]? with
        | some (.arr wd' xs)=>wd' = 3 /\ 0 + S.length <= xs.length /\ SV.slc 3 ((xs.drop 0).take S.length) = SM S
        | _=>False
      rw [hk]
      exact ⟨rfl,by rw [sms_len]; omega,by rw [frz_sms]; rfl⟩)
    have hq : ∀ (j c : Nat),(List.replicate k (none : Option Nat) ++ [some b])[j]? = some (some c) -> j = k /\ c = b:=fun j c hj=>by
      by_cases h : j < k
      . rw [List.getElem?_append_left (by simpa using h),List.getElem?_replicate] at hj
        simp [h] at hj
      . rw [List.getElem?_append_right (by simp; omega),List.length_replicate] at hj
        by_cases e : j = k
        . subst e; simp at hj; exact ⟨rfl,hj.symm⟩
        . have:=(List.getElem?_eq_some_iff.1 hj).1
          simp at this; omega
    have hqk : (List.replicate k (none : Option Nat) ++ [some b])[k]? = some (some b):=by
      rw [List.getElem?_append_right (by simp),List.length_replicate]; simp
    refine hf w A _ (List.replicate k none ++ [some b]) _ ⟨fun j o blk ho hblk=>?_⟩ (fun _ h=>h.1) (fun j c blk hj _ _ ha=>?_) (.osl _ _ _ _ _ _ _ hqk hc hs)
    . cases o with
      | none=>trivial
      | some c =>
        obtain ⟨rfl,rfl⟩:=hq j c ho
        rw [hk] at hblk
        cases hblk
        exact hW.blk j _ _ hb hk
    . obtain ⟨rfl,rfl⟩:=hq j c hj
      exact ha.2 hb
end
section
open Go.RowKit Go.Maps Go.Sort Go.MapKept Go.ChangeMaps Go.WideMaps
attribute [local irreducible] FS FO IT HS
def othE (E : List Ent) (op : IOp) (e : Env) (_H : List Blk) : Option (Option Nat → (SV → Option Nat → Prop) → Prop) :=
  match op with
  | .oth o => match o.op with
    | .makeMap _ none=>some fun g R=>g = none /\ ∀ mb,R (.raw (.map (some mb))) (some (mb * (E.length + 2)))
    | .lookup t m x false=>if t ≠ 73 then none else some fun g R=>∃ mb c i j,ev e (cOpd m) = .raw (.map (some mb)) /\ ev e (cOpd x) = .agg [.int .i64 i,.int .i64 j] /\ I64 i /\ I64 j /\ c <= E.length /\ g = some (mb * (E.length + 2) + c) /\ R (SM (lookE (E.take c) i j)) g
    | _=>none
  | _=>none
def othHE (E : List Ent) (_M : Nat) (_ks : List Nat) (op : IOp) (e : Env) (H : List Blk) : Option (Option Nat → (SV → Env → List Blk → Option Nat → Prop) → Prop) :=
  match op with
  | .oth o => match o.op with
    | .mapUpdate t m x v=>if t ≠ 73 then none else some fun g R=>∃ mb c i j S k,ev e (cOpd m) = .raw (.map (some mb)) /\ E[c]? = some ((i,j),S) /\ I64 i /\ I64 j /\ ev e (cOpd x) = .agg [.int .i64 i,.int .i64 j] /\ ev e (cOpd v) = .osl k 3 0 S.length /\ H[k]? = some (.arr 3 (sms S)) /\ g = some (mb * (E.length + 2) + c) /\
        R .any (killE k e) ((killH k H).set k .dead) (some (mb * (E.length + 2) + (c + 1)))
    | _=>none
  | _=>none
theorem agg_two {w : World} {A : Nat -> Prop} {β : List (Option Nat)} {i j : Int} {v : Value} (h : Rep w A β (.agg [.int .i64 i,.int .i64 j]) v) : v = .agg #[.int .i64 i,.int .i64 j]:=by
  cases h with
  | agg _ _ vs hl hh =>
    match vs,hl with
    | [u0,u1],_=>rw [rep_int (hh 0 _ u0 rfl rfl),rep_int (hh 1 _ u1 rfl rfl)]
theorem raw_is {w : World} {A : Nat -> Prop} {β : List (Option Nat)} {u v : Value} (h : Rep w A β (.raw u) v) : v = u:=by
  cases h; rfl
section
variable {E : List Ent} {n0 : Nat} {A0 : Nat -> Prop} {o : Oper} {w : World} {A : Nat -> Prop} {β : List (Option Nat)} {a : Act} {e : Env} {H : List Blk}
theorem oth_E {op : IOp} {T : Option Nat -> (SV -> Option Nat -> Prop) -> Prop} {g : Option Nat} {R : SV -> Option Nat -> Prop} (hA0 : ∀ b,A0 b -> b < n0) (hcop : cop Tryz.prog o = some op) (hT : othE E op e H = some T) (hTR : T g R) (hX : mapE E n0 A0 g w A β) (hfin : ∀ b,A b -> b < w.heap.size) (hnm : ∀ b,some b ∈ β -> A b) (henv : EnvRel w A β e a.tmps) :
    rel Tryz.prog o a w fun v w'=>∃ (sv : SV) (g' : Option Nat) (A' : Nat -> Prop),R sv g' /\ mapE E n0 A0 g' w' A' β /\ OthStep A0 β A w A' w' /\ Rep w' A' β sv v:=by
  have vop : ∀ x : Operand,Rep w A β (ev e (cOpd x)) (a.eval x):=fun x=>ev_rep x fun t _=>henv t
  unfold othE at hT
  split at hT
  . rename_i o'
    obtain rfl:=cop_oth hcop
    split at hT
    . rename_i t hop
      cases hT
      obtain ⟨rfl,hR⟩:=hTR
      have hX : n0 <= w.heap.size:=hX
      have hb : Belo w.heap.size w (w.alloc (.map #[] 0)):=(Belo.refl _ w).alloc (Nat.le_refl _) _
      have hsz : (w.alloc (.map #[] 0)).heap.size = w.heap.size + 1:=by simp
      refine rel_value (v:=.map (some w.heap.size)) (w':=w.alloc (.map #[] 0)) (by simp [execOp,hop,run_makeMap,Result.andThen]) ⟨_,_,fun b=>A b \/ b = w.heap.size,hR w.heap.size,?_,⟨Stp.below hb,fun b hlt _=>hb.block b hlt,fun b hlt=>⟨fun h=>h.resolve_right (by omega),.inl⟩,fun b h=>?_⟩,.raw _ _⟩
      . have hg:=ghost_div (K:=E.length + 2) (mb:=w.heap.size) (i:=0) (by omega)
        rw [Nat.add_zero] at hg
        show ¬ A0 _ /\ _ /\ _ /\ _
        rw [hg.1,hg.2]
        refine ⟨fun h=>by have:=hA0 _ h; omega,.inr rfl,fun h=>by have:=hfin _ (hnm _ h); omega,.map [],?_,World.ownsMap_made _ _ _ _⟩
        rw [List.take_zero]
        exact AgM.nil _ _
      . rw [hsz]
        rcases h with h | h
        . have:=hfin b h; omega
        . omega
    . rename_i t m x hop
      split at hT
      . cases hT
      rename_i ht
      obtain rfl : t = 73:=by simpa using ht
      cases hT
      obtain ⟨mb,c,i,j,hm,hx,hi,hj,hc,rfl,hR⟩:=hTR
      have hg:=ghost_div (K:=E.length + 2) (mb:=mb) (i:=c) (by omega)
      have hX':=hX
      obtain ⟨h0,hA,hnb,D,hag,hown⟩:=hX
      rw [hg.2] at hag
      rw [hg.1,hg.2] at hown
      have vm:=vop m
      rw [hm] at vm
      have vm:=raw_is vm
      have vx:=vop x
      rw [hx] at vx
      have vx:=agg_two vx
      obtain ⟨v,ps,hrun,hv⟩:=hown.lookup kt_keyed mt_under (et_zero w) (zd:=.held (.slice none 0 0)) (zp:=[]) rfl (key_of hi hj)
      obtain ⟨v',h1,h2⟩:=hag.2 i j hi hj
      have ev' : (DataW.held v : DataW Value) = .held v':=by
        have h3:=congrArg (fun z=>z.map Prod.fst) hv
        simp only [rdV,Option.map_some,Option.some.injEq] at h3
        rw [h3,h1]
      cases ev'
      exact rel_value (v:=v) (w':=w) (by simp [execOp,hop,vm,vx,hrun,Result.andThen]) ⟨_,_,A,hR,hX',OthStep.refl hfin,h2.purely rfl β⟩
    . cases hT
  . cases hT
theorem othH_E {op : IOp} {T : Option Nat -> (SV -> Env -> List Blk -> Option Nat -> Prop) -> Prop} {g : Option Nat} {R : SV -> Env -> List Blk -> Option Nat -> Prop} {M : Nat} {ks : List Nat} {B0 : Nat -> Prop} {w0 : World} (hE : E.length <= 1000000) (hcop : cop Tryz.prog o = some op) (hT : othHE E M ks op e H = some T) (hTR : T g R) (hcur : CurX B0 w0 A0 [] M ks w A β H) (hX : mapE E n0 A0 g w A β) (henv : EnvRel w A β e a.tmps) :
    rel Tryz.prog o a w fun v w'=>∃ (sv : SV) (e2 : Env) (H2 : List Blk) (g' : Option Nat) (A' : Nat -> Prop) (β' : List (Option Nat)),R sv e2 H2 g' /\ mapE E n0 A0 g' w' A' β' /\ CurX B0 w0 A0 [] M ks w' A' β' H2 /\ EnvRel w' A' β' e2 a.tmps /\ Rep w' A' β' sv v:=by
  have vop : ∀ x : Operand,Rep w A β (ev e (cOpd x)) (a.eval x):=fun x=>ev_rep x fun t _=>henv t
  unfold othHE at hT
  split at hT
  . rename_i o'
    obtain rfl:=cop_oth hcop
    split at hT
    . rename_i t m x v hop
      split at hT
      . cases hT
      rename_i ht
      obtain rfl : t = 73:=by simpa using ht
      cases hT
      obtain ⟨mb,c,i,j,S,k,hm,hc,hi,hj,hx,hv,hk,rfl,hR⟩:=hTR
      have hcl:=(List.getElem?_eq_some_iff.1 hc).1
      have hg:=ghost_div (K:=E.length + 2) (mb:=mb) (i:=c) (by omega)
      have hg':=ghost_div (K:=E.length + 2) (mb:=mb) (i:=c + 1) (by omega)
      obtain ⟨h0,hA,hnb,D,hag,hown⟩:=hX
      rw [hg.2] at hag
      rw [hg.1,hg.2] at hown
      rw [hg.1] at h0 hA hnb
      have vm:=vop m
      rw [hm] at vm
      have vm:=raw_is vm
      have vx:=vop x
      rw [hx] at vx
      have vx:=agg_two vx
      have vv:=vop v
      rw [hv] at vv
      obtain ⟨w',hrun,hown',hturn⟩:=hown.store kt_keyed mt_under (by simp [maxLen]; omega) (key_of hi hj) (d:=.held (a.eval v)) (ps:=[]) rfl
      obtain ⟨es,clock,es',clock',hb,rfl⟩:=hturn
      have hmb0 : w0.heap.size <= mb:=by
        by_cases h : mb < w0.heap.size
        . exact absurd ((hcur.agree mb h).1 hA) h0
        . omega
      obtain ⟨hcur1,hstp⟩:=hcur.put (o':=.map es' clock') hb (fun _ _ _ h=>by cases h) hmb0 hA hnb
      have hcur1 : CurX B0 w0 A0 [] M ks (setBlock w mb (.map es' clock')) A β H:=hcur1
      have hstp : Stp A w (setBlock w mb (.map es' clock')):=hstp
      have henv1 : EnvRel (setBlock w mb (.map es' clock')) A β e a.tmps:=henv.mono hstp (fun _ _ h=>h) fun _ _ h=>h
      have hrv : Rep (setBlock w mb (.map es' clock')) (fun c=>A c /\ β[k]? ≠ some (some c)) [] (SM S) (a.eval v):=seal_rep hcur1.rel hk (vv.mono hstp fun _ _ h=>h)
      have hcur2:=seal_cur hcur1 k
      unfold rel
      rw [show (execOp a.eval o').run Tryz.prog w = .ok .skip (setBlock w mb (.map es' clock')) by simp [execOp,hop,vm,vx,hrun,Result.andThen]]
      refine ⟨.any,_,_,_,_,_,hR,?_,hcur2,?_,.any _ _⟩
      . show ¬ A0 _ /\ _ /\ _ /\ _
        rw [hg'.1,hg'.2]
        refine ⟨h0,⟨hA,fun h=>hnb (List.mem_of_getElem? h)⟩,fun h=>?_,_,?_,hown'⟩
        . obtain ⟨q,hq,he⟩:=List.getElem_of_mem h
          exact hnb (List.mem_of_getElem? ((unname_get [k] β q mb).1 (by show (β.set k none)[q]? = _; rw [List.getElem?_eq_getElem hq,he])).2)
        . rw [List.take_add_one,hc]
          exact hag.step hstp (fun b hb h=>h.1) hi hj hrv
      . exact henv1.kill (Stp.refl _ _) (fun _ _ h=>h.1) k fun q b hq hb=>by rw [List.getElem?_set_ne (Ne.symm hq)]; exact hb
    . cases hT
  . cases hT
end
def mapN (E : List Ent) (n0 : Nat) (A0 : Nat -> Prop) (g : Option Nat) (w : World) (A : Nat -> Prop) (β : List (Option Nat)) : Prop:=(∀ b,some b ∈ β -> A b) /\ mapE E n0 A0 g w A β
theorem own_names {w : World} {A : Nat -> Prop} {β : List (Option Nat)} {H : List Blk} (h : WRel w A β H) : ∀ b,some b ∈ β -> A b:=fun b hb=>by
  obtain ⟨k,hk,he⟩:=List.getElem_of_mem hb
  exact (h.own k b (by simp [hk,he])).1
def yE (E : List Ent) : Yv:={ out:=false,l:=0,xs:=[],oth:=othE E,othH:=othHE E }
theorem yok_E {E : List Ent} {n0 : Nat} {A0 : Nat -> Prop} (hE : E.length <= 1000000) (hA0 : ∀ b,A0 b -> b < n0) {M : Nat} {ks : List Nat} : Yok Tryz.prog A0 [] M ks (yE E) ⟨fun b=>some b ∈ ([] : List (Option Nat)),mapN E n0 A0⟩ where
  stab:=fun g w A β w2 A2 β2 H2 hX hcur=>⟨own_names hcur.rel,mapE_stab hX.2 hX.1 hcur⟩
  names:=fun g w A β β2 _ hs _ hX=>⟨fun b hb=>(hs b hb).2,mapE_names hs hX.2⟩
  wide:=fun _ h=>absurd rfl h
  yld:=fun i x us w A β h=>by simp [yE] at h
  oth := fun o op e H T hcop hT g R hTR w A β a hX hfin hW henv => by
    refine rel_mono (oth_E (H:=H) hA0 hcop hT hTR hX.2 hfin hX.1 henv) fun v w' h=>?_
    obtain ⟨sv,g',A',h1,h2,h3,h4⟩:=h
    exact ⟨sv,g',A',h1,⟨fun b hb=>by
      have:=hX.1 b hb
      exact (h3.agree b (hfin b this)).2 this,h2⟩,h3,h4⟩
  othH:=fun o op e H T hcop hT g R hTR w0 w A β a hcur hX henv=>by
    refine rel_mono (othH_E hE hcop hT hTR hcur hX.2 henv) fun v w' h=>?_
    obtain ⟨sv,e2,H2,g',A',β',h1,h2,h3,h4,h5⟩:=h
    exact ⟨sv,e2,H2,g',A',β',h1,⟨own_names h3.rel,h2⟩,h3,h4,h5⟩
def HB (f : FuncId) (args : List SV) (E : List Ent) : Prop :=
  (∀ vs w,(callFunc f vs).run Tryz.prog w = .ok (.enter f vs) w) /\
  ∀ (w : World) (A : Nat → Prop) (vs : List Value), (∀ b, A b → b < w.heap.size) → Reps w A [] args vs →
    Calls Tryz.prog f vs.toArray w fun e w'=>∃ (mb : Nat) (A' : Nat -> Prop),e = .returned (.tuple #[.map (some mb),.int .i64 0]) /\ Belo w.heap.size w w' /\ (∀ b,A' b -> b < w'.heap.size) /\ (∀ b,b < w.heap.size -> (A' b ↔ A b)) /\ w.heap.size <= mb /\ A' mb /\
      ∃ D,AgM w' A' E D /\ w'.ownsMap Tryz.prog 69 rdV mb E.length D
theorem hb_of_cvc {f : FuncId} {N : Nat} {ir : IR} {rs : List RV} (hc : Code1 Tryz.prog f N ir rs) {args : List SV} {E : List Ent} (hE : E.length <= 1000000) (hN : args.length <= N)
    (h : cvc Tryz.prog 0 [] (yE E) ir (argE 0 args) [] none fun ex e' H' g'=>finK ex (resK rs e' H' fun sv=>∃ mb,sv = .tup [.raw (.map (some mb)),.int .i64 0] /\ g' = some (mb * (E.length + 2) + E.length))) : HB f args E:=by
  refine ⟨hc.enter,fun w A vs hfin hr=>(calls_of_cvc mixed hc hN (R:=fun sv _ g'=>∃ mb,sv = .tup [.raw (.map (some mb)),.int .i64 0] /\ g' = some (mb * (E.length + 2) + E.length)) (yok_E hE hfin) (fun b h=>h) h hfin (WRel.nil w A) hr ⟨fun b hb=>by simp at hb,Nat.le_refl w.heap.size⟩).mono ?_⟩
  rintro e w' ⟨v,A',β',sv,H',g',rfl,⟨mb,rfl,rfl⟩,hcur,hrep,hX⟩
  obtain ⟨hnm,h0,hA,hnb,D,hag,hown⟩:=hX rfl
  have hg:=ghost_div (K:=E.length + 2) (mb:=mb) (i:=E.length) (by omega)
  rw [hg.2,List.take_length] at hag
  rw [hg.1,hg.2] at hown
  rw [hg.1] at h0 hA hnb
  have hv : v = .tuple #[.map (some mb),.int .i64 0]:=by
    cases hrep with
    | tup _ _ vs hl hh =>
      match vs,hl with
      | [u0,u1],_=>rw [raw_is (hh 0 _ u0 rfl rfl),rep_int (hh 1 _ u1 rfl rfl)]
  refine ⟨mb,A',by rw [hv],⟨hcur.frm.os,hcur.frm.tape,hcur.frm.output,hcur.frm.drn,hcur.frm.size,fun b hb=>hcur.frm.keep b hb (by simp)⟩,hcur.fin,hcur.agree,?_,hA,D,hag,hown⟩
  by_cases h : mb < w.heap.size
  . exact absurd ((hcur.agree mb h).1 hA) h0
  . omega
def yT (f : FuncId) (args : List SV) (E : List Ent) : Yv := { out := false, l := 0, xs := [], oth := fun op e H => match op with
  | .call g xs => match fnsOf (ev e g) with
    | some (g0,[],[])=>if g0 = f then some fun g R=>xs.map (ev e) = args /\ g = none /\ ∀ mb,R (.tup [.raw (.map (some mb)),.int .i64 0]) (some (mb * (E.length + 2) + E.length)) else none
    | _=>none
  | op=>othE E op e H }
theorem yok_T {f : FuncId} {args : List SV} {E : List Ent} {n0 : Nat} {A0 : Nat -> Prop} (hp : SV.pure.pureL args = true) (hB : HB f args E) (hA0 : ∀ b,A0 b -> b < n0) {M : Nat} {ks : List Nat} {β0 : List (Option Nat)} (_hβ : β0 = []) : Yok Tryz.prog A0 β0 M ks (yT f args E) ⟨fun b=>some b ∈ ([] : List (Option Nat)),mapN E n0 A0⟩ where
  stab:=fun g w A β w2 A2 β2 H2 hX hcur=>⟨own_names hcur.rel,mapE_stab hX.2 hX.1 hcur⟩
  names:=fun g w A β β2 _ hs _ hX=>⟨fun b hb=>(hs b hb).2,mapE_names hs hX.2⟩
  wide:=fun _ h=>absurd rfl h
  yld:=fun i x us w A β h=>by simp [yT] at h
  oth := fun o op e H T hcop hT g R hTR w A β a hX hfin hW henv => by
    have fin : ∀ {T : Option Nat -> (SV -> Option Nat -> Prop) -> Prop},othE E op e H = some T -> T g R -> rel Tryz.prog o a w fun v w'=>∃ (sv : SV) (g' : Option Nat) (A' : Nat -> Prop),R sv g' /\ mapN E n0 A0 g' w' A' β /\ OthStep A0 β A w A' w' /\ Rep w' A' β sv v:=fun hT hTR=>by
      refine rel_mono (oth_E (H:=H) hA0 hcop hT hTR hX.2 hfin hX.1 henv) fun v w' h=>?_
      obtain ⟨sv,g',A',h1,h2,h3,h4⟩:=h
      exact ⟨sv,g',A',h1,⟨fun b hb=>by
        have:=hX.1 b hb
        exact (h3.agree b (hfin b this)).2 this,h2⟩,h3,h4⟩
    simp only [yT] at hT
    split at hT
    . rename_i gf xs
      split at hT
      . rename_i g0 hfn
        split at hT
        . rename_i hg
          subst hg
          cases hT
          obtain ⟨hxs,rfl,hR⟩:=hTR
          obtain ⟨c,f',hop,hf',rfl,rfl⟩:=cop_call hcop
          have hr' : ∀ x,x ∈ o.op.operands -> Rep w A β (ev e (cOpd x)) (a.eval x):=fun x hx=>ev_rep x fun t _=>henv t
          have hfrep:=hr' f' (by simp [hop,Op.operands,Call.operands,hf'])
          obtain ⟨us,vs,hav,hus,hvs⟩:=fnsOf_rep hfn hfrep
          obtain rfl : us = []:=List.eq_nil_of_length_eq_zero hus.1
          obtain rfl : vs = []:=List.eq_nil_of_length_eq_zero hvs.1
          have hargs:=map_reps (e:=e) (a:=a) c.args.toList fun x hx=>hr' x (by simp [hop,Op.operands,Call.operands,hf']; exact .inr (by simpa using hx))
          rw [hxs] at hargs
          have hrun : (execOp a.eval o).run Tryz.prog w = .ok (.enter g0 (c.args.toList.map a.eval).toArray) w:=by
            simp only [execOp,hop,resolve,hf',hav,Deferred.ofValue,Sem.run_bind,Sem.run_pure,Result.andThen_ok,invoke]
            have : (#[] ++ c.args.map a.eval ++ #[]) = (c.args.toList.map a.eval).toArray:=by
              apply Array.ext'; simp
            rw [show ([] : List Value).toArray = #[] from rfl,this]
            exact hB.1 _ _
          unfold rel
          rw [hrun]
          refine (hB.2 w A _ hfin (reps_purely hargs hp [])).mono ?_
          rintro e' w' ⟨mb,A',rfl,hbel,hfin',hag',hmb,hAm,D,hagm,hown⟩
          have hg:=ghost_div (K:=E.length + 2) (mb:=mb) (i:=E.length) (by omega)
          have hX1:=hX.1
          have hX2 : n0 <= w.heap.size:=hX.2
          refine ⟨_,rfl,_,_,A',hR mb,⟨fun b hb=>?_,?_⟩,⟨Stp.below hbel,fun b hb _=>hbel.block b hb,hag',hfin'⟩,?_⟩
          . have:=hX1 b hb
            exact (hag' b (hfin b this)).2 this
          . show ¬ A0 _ /\ _ /\ _ /\ _
            rw [hg.1,hg.2,List.take_length]
            exact ⟨fun h=>by have:=hA0 _ h; omega,hAm,fun h=>by have:=hfin _ (hX1 _ h); omega,D,hagm,hown⟩
          . refine .tup _ _ [_,_] rfl fun i f v h1 h2=>?_
            match i,h1,h2 with
            | 0,h1,h2=>cases h1; cases h2; exact .raw _ _
            | 1,h1,h2=>cases h1; cases h2; exact .int _ _ _
        . cases hT
      . cases hT
    . exact fin hT hTR
  othH:=fun o op e H T hcop hT=>by simp [yT] at hT
end
end Go.Proofs.YtelbhbadkbcakaaGreat
