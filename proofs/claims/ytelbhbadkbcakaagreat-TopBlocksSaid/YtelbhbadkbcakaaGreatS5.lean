/- What is shown of code is what it does: code as a whole. What is shown of code is what it does: a function's contract. What is shown of code is what it does: contracts of functions. Arithmetic that the VCs come to. Lending: what is pure stays as it is. Wide numbers as numbers modulo 2^128: plain arithmetic. '==' on structs of numbers. What an argument that can be read is: its shape, by its type. What an argument that can be read stands for. -/
import Derived.Test.YtelbhbadkbcakaaGreatS4
import Derived.Sort.LoopGhostIn
import Derived.Scope
import Derived.RangeFuncRecord
import Derived.Laws.Sem
import Derived.RowKit
import Derived.IntWalk
import Derived.Laws.Bits
import Derived.Lib.Hide
import Derived.Laws.BitsAllLaws
import Derived.Laws.StructEq
import Derived.ProofKit
import Derived.OpenShut
import Derived.ChangeOld
import Derived.Below
import Derived.DataReads
namespace Go.Proofs.YtelbhbadkbcakaaGreat
section
open Go.RowKit
section
variable {P : Program} {w0 : World} {A0 : Nat -> Prop} {β0 : List (Option Nat)} {M : Nat} {ks : List Nat} {w : World} {A : Nat -> Prop} {β : List (Option Nat)} {H : List Blk}
theorem CurX.weaken {B0 : Nat -> Prop} {H' : List Blk} (hH : leH H.length H H') (h : CurX B0 w0 A0 β0 M ks w A β H) : CurX B0 w0 A0 β0 M ks w A (β ++ List.replicate (H'.length - H.length) none) H':=by
  obtain ⟨h1,h2⟩:=leH_spec H H' hH
  have hlen:=h.rel.len
  have hget : ∀ (k b : Nat),(β ++ List.replicate (H'.length - H.length) none)[k]? = some (some b) -> β[k]? = some (some b):=fun k b hk=>by
    by_cases hl : k < β.length
    . rw [List.getElem?_append_left hl] at hk; exact hk
    . rw [List.getElem?_append_right (by omega)] at hk
      have:=(List.mem_replicate.1 (List.mem_of_getElem? hk)).2
      cases this
  have hmore : ∀ (k b : Nat),β[k]? = some (some b) -> (β ++ List.replicate (H'.length - H.length) none)[k]? = some (some b):=fun k b hk=>by
    rw [List.getElem?_append_left (List.getElem?_eq_some_iff.1 hk).1]; exact hk
  refine ⟨⟨by simp [hlen]; omega,fun k k' b hk hk'=>h.rel.inj k k' b (hget k b hk) (hget k' b hk'),fun k b hk=>h.rel.own k b (hget k b hk),fun k o blk hk hbk=>?_⟩,h.fin,h.frm,h.agree,fun k b hk hb=>h.fresh k b (hget k b hk) hb,fun k hk hn=>?_,by simp; exact Nat.le_trans h.more (by omega),h.sub⟩
  . cases o with
    | none=>trivial
    | some b =>
      have hk':=hget k b hk
      have hkl : k < H.length:=by rw [<- hlen]; exact (List.getElem?_eq_some_iff.1 hk').1
      have hx : ∃ x,H[k]? = some x:=⟨_,List.getElem?_eq_getElem hkl⟩
      obtain ⟨x,hx⟩:=hx
      have:=leB_rel (h2 k x blk hx hbk) (h.rel.blk k _ x hk' hx)
      exact this.keep (Stp.refl _ _) (fun _ _ h=>h) hmore (fun _ _=>rfl)
  . rw [List.getElem?_append_left (Nat.lt_of_lt_of_le hk h.more)]; exact h.same k hk hn
theorem mem_nones {β : List (Option Nat)} {n b : Nat} (h : some b ∈ β ++ List.replicate n none) : some b ∈ β:=by
  rcases List.mem_append.1 h with h' | h'
  . exact h'
  . have:=(List.mem_replicate.1 h').2
    cases this
theorem nones_more {β : List (Option Nat)} {n : Nat} : ∀ (k b : Nat),β[k]? = some (some b) -> (β ++ List.replicate n none)[k]? = some (some b):=fun k b hk=>by
  rw [List.getElem?_append_left (List.getElem?_eq_some_iff.1 hk).1]; exact hk
theorem Sta.weaken {y : Yv} {Y : Ysem} (hY : Yok P A0 β0 M ks y Y) {N : Nat} {g : Option Nat} {e e' : Env} {H' : List Blk} {a : Act} (hE : leE H.length e e') (hH : leH H.length H H') (h : Sta w0 A0 β0 M ks N y Y g e H a w A β) : Sta w0 A0 β0 M ks N y Y g e' H' a w A (β ++ List.replicate (H'.length - H.length) none):=by
  refine ⟨h.cur.weaken hH,fun t=>(leE_rep h.env e' hE t).more _ nones_more,h.size,?_,h.nodef,hY.names _ _ _ _ _ h.cur.fin (fun b hb=>⟨mem_nones hb,?_⟩) (fun k hk=>List.getElem?_append_left (Nat.lt_of_lt_of_le hk h.cur.more)) h.inv⟩
  . obtain ⟨rs,hn,hd,hr⟩:=h.marks
    exact ⟨rs,hn,hd,fun r hm=>⟨(hr r hm).1,fun hin=>(hr r hm).2.1 (mem_nones hin),(hr r hm).2.2⟩⟩
  . obtain ⟨k,hk,he⟩:=List.getElem_of_mem (mem_nones hb)
    exact (h.cur.rel.own k b (by simp [hk,he])).1
/-! ### What is not needed any more -/
theorem leH_dead {m : Nat} : ∀ xs : List Blk,leH m xs (List.replicate xs.length .dead)
  | []=>trivial
  | _x::xs=>⟨trivial,leH_dead xs⟩
theorem leHd_spec {D : Prop} {m : Nat} : ∀ (H H' : List Blk),leHd D m H H' -> leH m H H' \/ (D /\ ∃ d,leH m H (H' ++ List.replicate d .dead))
  | [],[],_=>.inl trivial
  | _x::xs,_y::ys,h=>(leHd_spec xs ys h.2).imp (fun k=>⟨h.1,k⟩) fun ⟨k,d,l⟩=>⟨k,d,h.1,l⟩
  | [],.arr _wd _xs::ys,h=>(leHd_spec [] ys h.2).imp (fun k=>⟨h.1,k⟩) fun ⟨k,d,l⟩=>⟨k,d,h.1,l⟩
  | [],.dead::_,h=>h.elim
  | [],.shut _ _::_,h=>h.elim
  | [],.vars _::_,h=>h.elim
  | x::xs,[],h=>.inr ⟨h,(x::xs).length,leH_dead (x::xs)⟩
theorem bndL_mem {n : Nat} {fs : List SV} (h : SV.bnd.bndL n fs = true) : ∀ (i : Nat) (f : SV),fs[i]? = some f -> f.bnd n = true:=by
  induction fs with
  | nil=>intro i f hf; simp at hf
  | cons g fs ih =>
    simp only [SV.bnd.bndL,Bool.and_eq_true] at h
    intro i f hf
    cases i with
    | zero=>simp at hf; exact hf ▸ h.1
    | succ i=>exact ih h.2 i f (by simpa using hf)
theorem bndE_look {n : Nat} : ∀ (e : Env) (t : Nat),bndE n e = true -> (look e t).bnd n = true
  | [],_,_=>rfl
  | (k, v) :: e, t, h => by
    simp only [bndE,Bool.and_eq_true] at h
    simp only [look]
    split
    . exact h.1
    . exact bndE_look e t h.2
theorem bndH_mem {n : Nat} : ∀ (H : List Blk),bndH n H = true -> ∀ (k : Nat) (cs : List SV),H[k]? = some (.vars cs) -> SV.bnd.bndL n cs = true
  | [],_,k,cs,hk=>by simp at hk
  | b :: H, h, k, cs, hk => by
    cases k with
    | zero =>
      simp at hk; subst hk
      simp only [bndH,Bool.and_eq_true] at h
      exact h.1
    | succ k =>
      have h' : bndH n H = true:=by
        cases b with
        | dead=>exact h
        | shut=>exact h
        | arr=>exact h
        | vars cs'=>simp only [bndH,Bool.and_eq_true] at h; exact h.2
      exact bndH_mem H h' k cs (by simpa using hk)
theorem Rep.trunc {β : List (Option Nat)} {x : SV} {v : Value} (h : Rep w A β x v) (n : Nat) : x.bnd n = true -> Rep w A (β.take n) x v:=by
  have get : ∀ {k b : Nat} {β : List (Option Nat)},k < n -> β[k]? = some (some b) -> (β.take n)[k]? = some (some b):=fun hk h=>by rw [List.getElem?_take_of_lt hk]; exact h
  induction h with
  | any β v=>exact fun _=>.any _ _
  | int=>exact fun _=>.int _ _ _
  | bool=>exact fun _=>.bool _ _
  | str=>exact fun _=>.str _ _
  | raw=>exact fun _=>.raw _ _
  | anyb=>exact fun _=>.anyb _ _
  | agg β fs vs hl _ ih=>exact fun hp=>.agg _ _ _ hl fun i f v h1 h2=>ih i f v h1 h2 (bndL_mem hp i f h1)
  | tup β fs vs hl _ ih=>exact fun hp=>.tup _ _ _ hl fun i f v h1 h2=>ih i f v h1 h2 (bndL_mem hp i f h1)
  | fn β f fs vs hl _ ih=>exact fun hp=>.fn _ _ _ _ hl fun i f v h1 h2=>ih i f v h1 h2 (bndL_mem hp i f h1)
  | nils=>exact fun _=>.nils _ _
  | slcZ=>exact fun _=>.slcZ _ _ _
  | slc β wd xs b off cap vs hm hc h _=>exact fun _=>.slc _ _ _ _ _ _ vs hm hc h
  | box β cells j0 b off vs hm h _=>exact fun _=>.box _ _ _ _ _ vs hm h
  | mth β f x v h _=>exact fun _=>.mth _ _ _ _ h
  | ptr β k wd i j b hk=>exact fun hp=>.ptr _ _ _ _ _ _ (get (of_decide_eq_true hp) hk)
  | oslZ=>exact fun _=>.oslZ _ _ _ _ _
  | osl β k wd i n' b cap hk hc hs=>exact fun hp=>.osl _ _ _ _ _ _ _ (get (of_decide_eq_true hp) hk) hc hs
theorem CurX.trunc {B0 : Nat -> Prop} {d : Nat} (h : CurX B0 w0 A0 β0 M ks w A β (H ++ List.replicate d .dead)) (hn : β0.length <= H.length) (hH : bndH H.length H = true) : CurX B0 w0 A0 β0 M ks w A (β.take H.length) H:=by
  have hlen : β.length = H.length + d:=by rw [h.rel.len]; simp
  have get : ∀ (k : Nat) (o : Option Nat),(β.take H.length)[k]? = some o -> k < H.length /\ β[k]? = some o:=fun k o hk=>by
    have hlt:=(List.getElem?_eq_some_iff.1 hk).1
    have hlt' : k < H.length:=by simp at hlt; omega
    rw [List.getElem?_take_of_lt hlt'] at hk
    exact ⟨hlt',hk⟩
  refine ⟨⟨by simp; omega,fun k k' b hk hk'=>h.rel.inj k k' b (get k _ hk).2 (get k' _ hk').2,fun k b hk=>h.rel.own k b (get k _ hk).2,fun k o blk hk hb=>?_⟩,h.fin,h.frm,h.agree,fun k b hk hb=>h.fresh k b (get k _ hk).2 hb,fun k hk hn'=>?_,by simp; omega,h.sub⟩
  . obtain ⟨hlt,hk⟩:=get k o hk
    have hr:=h.rel.blk k o blk hk (by rw [List.getElem?_append_left hlt]; exact hb)
    cases o with
    | none=>trivial
    | some b =>
      cases blk with
      | dead=>trivial
      | shut=>trivial
      | arr wd xs=>exact hr
      | vars cs =>
        obtain ⟨vs,T,h1,h2,h3⟩:=hr
        exact ⟨vs,T,h1,h2,fun j c v hc hv=>(h3 j c v hc hv).trunc _ (bndL_mem (bndH_mem H hH k cs hb) j c hc)⟩
  . rw [List.getElem?_take_of_lt (by omega)]; exact h.same k hk hn'
theorem Sta.trunc {y : Yv} {Y : Ysem} (hY : Yok P A0 β0 M ks y Y) {N : Nat} {g : Option Nat} {e : Env} {a : Act} {d : Nat} (h : Sta w0 A0 β0 M ks N y Y g e (H ++ List.replicate d .dead) a w A β) (hn : β0.length <= H.length) (he : bndE H.length e = true) (hH : bndH H.length H = true) :
    Sta w0 A0 β0 M ks N y Y g e H a w A (β.take H.length):=by
  refine ⟨h.cur.trunc hn hH,fun t=>(h.env t).trunc _ (bndE_look e t he),h.size,?_,h.nodef,hY.names _ _ _ _ _ h.cur.fin (fun b hb=>⟨List.mem_of_mem_take hb,?_⟩) (fun k hk=>List.getElem?_take_of_lt (Nat.lt_of_lt_of_le hk hn)) h.inv⟩
  . obtain ⟨rs,hn,hd,hr⟩:=h.marks
    exact ⟨rs,hn,hd,fun r hm=>⟨(hr r hm).1,fun hin=>(hr r hm).2.1 (List.mem_of_mem_take hin),(hr r hm).2.2⟩⟩
  . obtain ⟨k,hk,he⟩:=List.getElem_of_mem (List.mem_of_mem_take hb)
    exact (h.cur.rel.own k b (by simp [hk,he])).1
theorem Sta.weakenD {y : Yv} {Y : Ysem} (hY : Yok P A0 β0 M ks y Y) {N n0 : Nat} {g : Option Nat} {e e' : Env} {H' : List Blk} {a : Act} (hn0 : β0.length <= n0) (hE : leE H.length e e') (hH : leHd (dropD n0 e' H') H.length H H') (h : Sta w0 A0 β0 M ks N y Y g e H a w A β) : ∃ β',Sta w0 A0 β0 M ks N y Y g e' H' a w A β':=by
  rcases leHd_spec H H' hH with hH | ⟨⟨h1,h2,h3⟩,d,hH⟩
  . exact ⟨_,h.weaken hY hE hH⟩
  . exact ⟨_,(h.weaken hY hE hH).trunc hY (Nat.le_trans hn0 h1) h2 h3⟩
theorem Sta.cond {y : Yv} {Y : Ysem} {N : Nat} {g : Option Nat} {e : Env} {a : Act} {c : Operand} {b : Bool} (h : Sta w0 A0 β0 M ks N y Y g e H a w A β) (hc : a.eval c = .bool b) : Sta w0 A0 β0 M ks N y Y g (setB e (cOpd c) b) H a w A β:=by
  refine ⟨h.cur,?_,h.size,h.marks,h.nodef,h.inv⟩
  cases c with
  | tmp n =>
    have hc' : a.tmps.getD n undef = .bool b:=hc
    intro t
    simp only [cOpd,setB,look]
    split
    . rename_i ht; subst ht; rw [hc']; exact .bool _ _
    . exact h.env t
  | _=>exact h.env
theorem stepR_scope {b : Frame} {a : Act} {k : List Item} {cs : List Frame} {w : World} {c : Code} : step P (lone (b.atR a (.code (.scope c)::k)) cs w) = .next (lone (b.atR a (.code c::.inScope c::k)) cs w) :=
  step_lone_go (by simp [stepG,stepG.exec,Frame.atR])
theorem stepR_inScope {b : Frame} {a : Act} {k : List Item} {cs : List Frame} {w : World} {c : Code} : step P (lone (b.atR a (.inScope c::k)) cs w) = .next (lone (b.atR a k) cs w) :=
  step_lone_go (by simp [stepG,stepG.exec,Frame.atR])
theorem wpIn_scope_straight {F : Fence} {m : Nat} {Q : Exit -> Act -> World -> Prop} {a : Act} {w : World} {c : Code} (h : c.wpIn F m P (Exit.noGoto Q) a w) : (Code.scope c).wpIn F m P Q a w:=by
  intro b k cs hro hb hr
  have h0 : (lone (b.atR a (.code (.scope c)::k)) cs w).fenced P F:=fenced_calm hb hr rfl
  obtain ⟨e,a₁,w₁,hq,harr⟩:=h b (.inScope c::k) cs hro hb hr
  cases e with
  | normal=>exact ⟨.normal,a₁,w₁,hq,.head h0 stepR_scope (StepsIn.trans harr (.one (fenced_calm hb hr rfl) stepR_inScope))⟩
  | exit id =>
    have hx : exitTo id (.inScope c::k) = exitTo id k:=by simp [exitTo]
    exact ⟨.exit id,a₁,w₁,hq,fun k' hk=>.head h0 stepR_scope (harr.1 k' (by rw [hx]; exact hk)),
      fun hr' hk=>let ⟨k₁,h1,h2⟩:=harr.2 hr' (by rw [hx]; exact hk); ⟨k₁,h1,.head h0 stepR_scope h2⟩⟩
  | goto l=>exact hq.elim
  | ret=>exact ⟨_,a₁,w₁,hq,.of_steps (.one h0 stepR_scope) harr⟩
  | panic ch=>exact ⟨_,a₁,w₁,hq,.of_steps (.one h0 stepR_scope) harr⟩
  | outgrown=>exact ⟨_,a₁,w₁,hq,.of_steps (.one h0 stepR_scope) harr⟩
def lawsB (P : Program) (N : Nat) : Code → Bool
  | .region _ ops true => match ops.toList.mapM (cIns P ops N) with
    | some is => match lateCut ops is with
      | some (n,n1,L)=>Region.lateB ops n n1 L N && ((is.drop n).take (n1 - n)).all (fun x=>x.op.amid && x.guard.isNone)
      | none=>Region.lawB ops (headLen ops is) N
    | none=>false
  | .seq a b=>lawsB P N a && lawsB P N b
  | .cond _ a b=>lawsB P N a && lawsB P N b
  | .block _ a=>lawsB P N a
  | .loop a=>lawsB P N a
  | .scope a=>lawsB P N a
  | .rangeFunc _ _ a b=>lawsB P N a && lawsB P N b
  | _=>true
abbrev Sound (P : Program) (N : Nat) (r : Option Nat) (m : Nat) (c : Code) (ir : IR) : Prop :=
  ∀ (w0 : World) (A0 : Nat → Prop) (β0 : List (Option Nat)) (M : Nat) (ks : List Nat) (y : Yv) (Y : Ysem), Yok P A0 β0 M ks y Y → (y.out = true → r = none) → ∀ (e : Env) (H : List Blk) (g : Option Nat) (K : Ex → Env → List Blk → Option Nat → Prop) (a : Act) (w : World) (A : Nat → Prop) (β : List (Option Nat)) (Q : Exit → Act → World → Prop),
    cvc P M ks y ir e H g K -> Sta w0 A0 β0 M ks N y Y g e H a w A β -> (∀ ex e' H' g' a' w' A' β',K ex e' H' g' -> Sta w0 A0 β0 M ks N y Y g' e' H' a' w' A' β' -> Q ex.to a' w') -> c.wpIn (Fr r) m P Q a w
theorem killEs_append : ∀ (js ks : List Nat) (e : Env),killEs (js ++ ks) e = killEs ks (killEs js e)
  | [],_,_=>rfl
  | j::js,ks,e=>killEs_append js ks (killE j e)
theorem WRel.unname1 (k : Nat) (h : WRel w A β H) : WRel w A (β.set k none) ((killH k H).set k .dead):=by
  have hg : ∀ (j b : Nat),(β.set k none)[j]? = some (some b) -> j ≠ k /\ β[j]? = some (some b):=fun j b hj=>by
    have:=(unname_get [k] β j b).1 hj
    exact ⟨by simpa using this.1,this.2⟩
  refine ⟨by simp [h.len,killH_length],fun i j b h1 h2=>h.inj i j b (hg i b h1).2 (hg j b h2).2,fun j b hj=>h.own j b (hg j b hj).2,fun j o blk hj hb=>?_⟩
  cases o with
  | none=>trivial
  | some b =>
    obtain ⟨hjk,hj'⟩:=hg j b hj
    rw [List.getElem?_set_ne (Ne.symm hjk),killH_get] at hb
    obtain ⟨blk',hb',rfl⟩:=Option.map_eq_some_iff.1 hb
    refine (h.blk j _ blk' hj' hb').killed (Stp.refl _ _) (fun _ _ h=>h) k (fun i c hi hc=>?_) fun _ _=>rfl
    rw [List.getElem?_set_ne (Ne.symm hi)]; exact hc
theorem WRel.unname : ∀ (sel : List Nat) {β : List (Option Nat)} {H : List Blk},WRel w A β H -> WRel w A (unname sel β) (deadHs sel H)
  | [],_,_,h=>h
  | k::sel,_,_,h=>WRel.unname sel (h.unname1 k)
def namesOf (sel : List Nat) (β : List (Option Nat)) : List (Option Nat):=sel.map fun k=>(β[k]?).join
theorem namesOf_get {sel : List Nat} {j b : Nat} (h : (namesOf sel β)[j]? = some (some b)) : ∃ k,sel[j]? = some k /\ β[k]? = some (some b):=by
  simp only [namesOf,List.getElem?_map,Option.map_eq_some_iff] at h
  obtain ⟨k,hk,h⟩:=h
  refine ⟨k,hk,?_⟩
  cases hb : β[k]? with
  | none=>simp [hb] at h
  | some o=>simpa [hb] using h
theorem namesOf_put {sel : List Nat} {j k b : Nat} (hj : sel[j]? = some k) (hk : β[k]? = some (some b)) : (namesOf sel β)[j]? = some (some b):=by
  simp [namesOf,hj,hk]
theorem WRel.names {sel : List Nat} {Hc : List Blk} (h : WRel w A β H) (hc : sel.map (fun k=>H[k]?) = Hc.map some) (hp : Hc.all okBlk = true) (hn : sel.Nodup) : WRel w A (namesOf sel β) Hc:=by
  have hl : sel.length = Hc.length:=by simpa using congrArg List.length hc
  refine ⟨by simp [namesOf,hl],fun i j b h1 h2=>?_,fun j b hj=>?_,fun j o blk hj hb=>?_⟩
  . obtain ⟨k1,e1,f1⟩:=namesOf_get h1
    obtain ⟨k2,e2,f2⟩:=namesOf_get h2
    have:=h.inj k1 k2 b f1 f2
    subst this
    have hi:=(List.getElem?_eq_some_iff.1 e1).1
    exact (List.getElem?_inj hi hn).1 (e1.trans e2.symm)
  . obtain ⟨k,_,hk⟩:=namesOf_get hj
    exact h.own k b hk
  . cases o with
    | none=>trivial
    | some b =>
      obtain ⟨k,e,hk⟩:=namesOf_get hj
      have hH : H[k]? = some blk:=by
        have:=congrArg (fun l=>l[j]?) hc
        simp only [List.getElem?_map,e,hb,Option.map_some] at this
        simpa using this
      have h1:=h.blk k _ blk hk hH
      have hok:=List.all_eq_true.1 hp blk (List.mem_of_getElem? hb)
      cases blk with
      | dead=>trivial
      | shut=>trivial
      | vars cells =>
        obtain ⟨cs,T,h2,h3,h4⟩:=h1
        exact ⟨cs,T,h2,h3,fun j c v hc hv=>(h4 j c v hc hv).purely (pureL_mem hok j c hc) _⟩
      | arr wd xs=>exact h1
theorem reps_names {sel : List Nat} {caps : List SV} {vs : List Value} (hr : Reps w A β (caps.map (renV sel)) vs) (hok : caps.all (okCap sel.length) = true) : Reps w A (namesOf sel β) caps vs:=by
  refine ⟨by simpa using hr.1,fun i f v hf hv=>?_⟩
  have h1:=hr.2 i (renV sel f) v (by simp [hf]) hv
  have h2:=List.all_eq_true.1 hok f (List.mem_of_getElem? hf)
  have sget : ∀ k,k < sel.length -> sel[k]? = some (sel.getD k 0):=fun k hk=>by simp [hk]
  cases f with
  | ptr k wd i j =>
    have hk : k < sel.length:=by simpa [okCap] using h2
    simp only [renV] at h1
    cases h1
    rename_i b hb
    exact .ptr _ _ _ _ _ _ (namesOf_put (sget k hk) hb)
  | osl k wd i n =>
    have hk : k < sel.length:=by simpa [okCap] using h2
    simp only [renV] at h1
    cases h1 with
    | oslZ=>exact .oslZ _ _ _ _ _
    | osl _ _ _ _ _ b cap hb hc hs=>exact .osl _ _ _ _ _ _ _ (namesOf_put (sget k hk) hb) hc hs
  | _=>exact h1.purely h2 _
theorem CurX.put {B0 : Nat -> Prop} {l : Nat} {o o' : Obj} (h : CurX B0 w0 A0 β0 M ks w A β H) (hl : w.heap[l]? = some o) (ho : ∀ cs T fr,o ≠ .cells cs T fr) (h0 : w0.heap.size <= l) (hA : A l) (hn : some l ∉ β) : CurX B0 w0 A0 β0 M ks (w.putObj l o') A β H /\ Stp A w (w.putObj l o'):=by
  have hother : ∀ b,b ≠ l -> (w.putObj l o').heap[b]? = w.heap[b]?:=fun b hb=>World.putObj_heap_other hb
  have hsz : (w.putObj l o').heap.size = w.heap.size:=by simp [World.putObj]
  have hcell : ∀ (b : Nat) (cs : Array Value) (T : TypeId) (fr : Nat × Nat),w.heap[b]? = some (.cells cs T fr) -> b ≠ l:=fun b cs T fr h e=>by rw [e,hl] at h; cases h; exact ho _ _ _ rfl
  have stp : Stp A w (w.putObj l o'):=⟨rfl,rfl,rfl,Nat.le_refl _,by rw [hsz]; exact Nat.le_refl _,fun b _ hb=>hother b fun e=>hb (e ▸ hA),fun b cs T fr h=>⟨cs,fr,by rw [hother b (hcell b cs T fr h)]; exact h,rfl⟩⟩
  have hname : ∀ (k b : Nat),β[k]? = some (some b) -> b ≠ l:=fun k b hk e=>hn (e ▸ List.mem_of_getElem? hk)
  refine ⟨⟨⟨h.rel.len,h.rel.inj,fun k b hk=>by rw [hsz]; exact h.rel.own k b hk,fun k o blk hk hbk=>(h.rel.blk k o blk hk hbk).keep stp (fun _ _ h=>h) (fun _ _ h=>h) fun b e=>hother b (hname k b (e ▸ hk))⟩,fun b hb=>by rw [hsz]; exact h.fin b hb,?_,h.agree,h.fresh,h.same,h.more,h.sub⟩,stp⟩
  refine ⟨h.frm.os,h.frm.tape,h.frm.output,h.frm.drn,by rw [hsz]; exact h.frm.size,fun b hb hn=>?_,fun b cs T fr h'=>?_⟩
  . rw [hother b (by omega)]; exact h.frm.keep b hb hn
  . obtain ⟨cs',fr',h1,h2⟩:=h.frm.shp b cs T fr h'
    exact ⟨cs',fr',by rw [hother b (hcell b _ _ _ h1)]; exact h1,h2⟩
theorem CurX.less {B0 : Nat -> Prop} {M' : Nat} {ks' : List Nat} (h : CurX B0 w0 A0 β0 M ks w A β H) (hk : ∀ k,k < β0.length -> (M <= k \/ k ∈ ks) -> (M' <= k \/ k ∈ ks')) : CurX B0 w0 A0 β0 M' ks' w A β H :=
  ⟨h.rel,h.fin,h.frm,h.agree,h.fresh,fun k hk1 hn=>h.same k hk1 fun h'=>hn (hk k hk1 h'),h.more,h.sub⟩
theorem bind_env : ∀ (ps : List Nat) (xs : List SV) (us : List Value) (e : Env) (tmps : Array Value),EnvRel w A β e tmps -> us.length = xs.length -> (∀ (i : Nat) (f : SV) (v : Value),xs[i]? = some f -> us[i]? = some v -> Rep w A β f v) -> (∀ p ∈ ps,p < tmps.size) -> xs.length = ps.length ->
    EnvRel w A β (bindE ps xs e) ((ps.zip us).foldl (fun t (p,v)=>t.setIfInBounds p v) tmps)
  | [],[],[],e,tmps,h,_,_,_,_=>h
  | p :: ps, x :: xs, u :: us, e, tmps, h, hl, hr, hp, hx => by
    simp only [bindE,List.zip_cons_cons,List.foldl_cons]
    refine bind_env ps xs us _ _ ?_ (by simpa using hl) (fun i f v hf hv=>hr (i + 1) f v (by simpa using hf) (by simpa using hv)) (fun q hq=>by simpa using hp q (by simp [hq])) (by simpa using hx)
    have:=EnvRel.put (a:={ tmps:=tmps,defers:=[] }) (d:=some p) h (fun t ht=>by cases ht; exact hp p (by simp)) (hr 0 x u rfl rfl)
    simpa [setE,Act.put] using this
  | [],_::_,_,_,_,_,_,_,_,hx=>by simp at hx
  | _::_,[],_,_,_,_,_,_,_,hx=>by simp at hx
  | _::_,_::_,[],_,_,_,hl,_,_,_=>by simp at hl
  | [],[],_::_,_,_,_,hl,_,_,_=>by simp at hl
theorem foldl_size {ps : List Nat} {us : List Value} : ∀ (tmps : Array Value),((ps.zip us).foldl (fun t (p,v)=>t.setIfInBounds p v) tmps).size = tmps.size:=by
  induction ps.zip us with
  | nil=>intro tmps; rfl
  | cons x l ih=>intro tmps; obtain ⟨p,v⟩:=x; simp [ih]
theorem noY_ok {β0 β1 : List (Option Nat)} {M : Nat} {ks : List Nat} : Yok P A0 β1 M ks noY ⟨fun b=>some b ∈ β0,fun _ _ _ _=>True⟩ :=
  ⟨fun _ _ _ _ _ _ _ _ _ _=>trivial,fun _ _ _ _ _ _ _ _ _=>trivial,fun _ h=>absurd rfl h,fun i x us w A β hx=>by simp [noY] at hx,fun _ _ _ _ _ _ h=>(by simp [noY] at h),fun _ _ _ _ _ _ h=>(by simp [noY] at h)⟩
def codeOf : Ex -> Code
  | .normal=>.skip
  | .exit id=>.exit id
  | .ret=>.ret
structure RBase (w : World) (β : List (Option Nat)) (Bi A' : Nat -> Prop) (W : World) (β' : List (Option Nat)) : Prop where
  dfr : W.heap[w.heap.size]? = some (.deferred (some []))
  aD : A' w.heap.size
  aL : A' (w.heap.size + 1)
  nD : some w.heap.size ∉ β'
  nL : some (w.heap.size + 1) ∉ β'
  bD : ¬ Bi w.heap.size
  bL : ¬ Bi (w.heap.size + 1)
  dis : ∀ b,Bi b -> some b ∉ β'
  old : ∀ b,Bi b -> b < w.heap.size -> some b ∈ β
  own : ∀ b,Bi b -> A' b
theorem zip_list (ps : Array Tmp) (us : List Value) (tmps : Array Value) : (ps.zip us.toArray).foldl (fun tmps (t,a)=>tmps.setIfInBounds t a) tmps = (ps.toList.zip us).foldl (fun t (p,v)=>t.setIfInBounds p v) tmps:=by
  rw [<- Array.foldl_toList,Array.toList_zip]
theorem CurX.stp {B0 : Nat -> Prop} {A1 : Nat -> Prop} (h : CurX B0 w0 A0 β0 M ks w A β H) (hB : ∀ b,B0 b -> A1 b) : Stp A1 w0 w :=
  ⟨h.frm.os,h.frm.tape,h.frm.output,h.frm.drn,h.frm.size,fun b hb hn=>h.frm.keep b hb fun h=>hn (hB b h),h.frm.shp⟩
theorem mem_name {b : Nat} (h : some b ∈ β) : ∃ k : Nat,β[k]? = some (some b):=by
  obtain ⟨k,hk,he⟩:=List.getElem_of_mem h
  exact ⟨k,by simp [hk,he]⟩
theorem rng_sound {m N : Nat} {f : Operand} {ps : Array Tmp} {x y' : Code} {ix iy : IR} {y : Yv} {Y : Ysem} (hY : Yok P A0 β0 M ks y Y) (hps : ∀ t ∈ ps,t < N) (hx : ∀ {m l : Nat},Sound P N (some l) m x ix) (hy : ∀ {m l : Nat},Sound P N (some l) m y' iy)
    {e : Env} {g : Option Nat} {K : Ex -> Env -> List Blk -> Option Nat -> Prop} {a : Act} {Q : Exit -> Act -> World -> Prop} (h : cvc P M ks y (.rng (cOpd f) ps.toList ix iy) e H g K) (hS : Sta w0 A0 β0 M ks N y Y g e H a w A β)
    (hQ : ∀ ex e' H' g' a' w' A' β',K ex e' H' g' -> Sta w0 A0 β0 M ks N y Y g' e' H' a' w' A' β' -> Q ex.to a' w') : (Code.rangeFunc f ps x y').wpIn (Fr none) m P Q a w:=by
  simp only [cvc_rng_eq,RngP] at h
  split at h
  case h_2=>exact h.elim
  rename_i gf caps hfn
  obtain ⟨hout,sel,kl,caps',Hc,xs,SH,ok,hIT,hren,hok,hsel,hpure,hnd,hstale,hle,hok0,hround,hdone⟩:=h
  obtain ⟨vs,hav,hvs⟩ : ∃ vs : List Value,a.eval f = .func (.func gf) #[] vs.toArray /\ Reps w A β caps vs:=by
    obtain ⟨us,vs,h1,h2,h3⟩:=fnsOf_rep hfn (ev_rep (w:=w) (A:=A) (β:=β) (e:=e) (a:=a) f fun t _=>hS.env t)
    obtain rfl : us = []:=List.eq_nil_of_length_eq_zero h2.1
    exact ⟨vs,h1,h3⟩
  obtain ⟨e1,he1⟩ : ∃ e1,killEs kl (killEs sel e) = e1:=⟨_,rfl⟩
  rw [he1] at hround hdone
  have hrelw:=hS.cur.rel
  have hnA : ∀ b,some b ∈ β -> A b:=fun b hb=>by obtain ⟨k,hk⟩:=mem_name hb; exact (hrelw.own k b hk).1
  have hnS : ∀ b,some b ∈ β -> b < w.heap.size:=fun b hb=>by obtain ⟨k,hk⟩:=mem_name hb; exact (hrelw.own k b hk).2
  refine wpIn_rangeFunc fun fn _=>?_
  obtain ⟨rec,hrec⟩ : ∃ rec : LoopState -> Option Code -> Loop,rec = fun st pe=>{ state:=st,pending:=pe,fn,tmps:=a.tmps,params:=ps,assign:=x,body:=y',defers:=w.heap.size }:=⟨_,rfl⟩
  obtain ⟨w1,hw1⟩ : ∃ w1,(w.alloc (.deferred (some []))).alloc (.loop (rec .ready none)) = w1:=⟨_,rfl⟩
  have hL1 : w1.heap[w.heap.size + 1]? = some (.loop (rec .ready none)):=by
    rw [<- hw1]; have:=World.alloc_heap_new (w.alloc (.deferred (some []))) (.loop (rec .ready none)); rwa [World.size_alloc] at this
  have hD1 : w1.heap[w.heap.size]? = some (.deferred (some [])):=by
    rw [<- hw1]; exact (Belo.heap_alloc _ _ _ (by simp)).trans (World.alloc_heap_new w _)
  have hb1 : Belo w.heap.size w w1:=by
    rw [<- hw1]; exact ((Belo.refl _ w).alloc (Nat.le_refl _) _).alloc (by simp) _
  have hs1 : w1.heap.size = w.heap.size + 2:=by rw [<- hw1]; simp
  obtain ⟨A1,hA1⟩ : ∃ A1 : Nat -> Prop,A1 = fun b=>A b \/ b = w.heap.size \/ b = w.heap.size + 1:=⟨_,rfl⟩
  have hA1A : ∀ b,b < w.heap.size -> A1 b -> A b:=fun b hb h=>by
    rw [hA1] at h; rcases h with h | h | h <;> first | exact h | omega
  have hAA1 : ∀ b,A b -> A1 b:=fun b h=>by rw [hA1]; exact .inl h
  have hfin1 : ∀ b,A1 b -> b < w1.heap.size:=fun b h=>by
    rw [hA1] at h; rw [hs1]
    rcases h with h | h | h
    . have:=hS.cur.fin b h; omega
    . omega
    . omega
  have hW1 : WRel w1 A1 β H:=⟨hrelw.len,hrelw.inj,fun k b hk=>⟨hAA1 b (hrelw.own k b hk).1,by have:=(hrelw.own k b hk).2; omega⟩,fun k o blk hk hbk=>(hrelw.blk k o blk hk hbk).keep (Stp.below hb1) hA1A (fun _ _ h=>h) fun b he=>hb1.block b (hnS b (he ▸ List.mem_of_getElem? hk))⟩
  have hcur1 : CurX (fun b=>some b ∈ β) w A β H.length (sel ++ kl) w1 A1 (unname sel β) (deadHs sel H) :=
    ⟨hW1.unname sel,hfin1,(Frm.below hb1).b,fun b hb=>⟨hA1A b hb,hAA1 b⟩,fun k b hk _=>List.mem_of_getElem? ((unname_get sel β k b).1 hk).2,fun k _ hn=>unname_same sel β k fun h=>hn (.inr (by simp [h])),by rw [unname_length]; exact Nat.le_refl _,fun _ h=>h⟩
  -- what the slots are known as, in whatever round
  have henv : ∀ {W : World} {A' : Nat -> Prop} {β' : List (Option Nat)} {HH : List Blk},CurX (fun b=>some b ∈ β) w A β H.length (sel ++ kl) W A' β' HH -> EnvRel W A' β' e1 a.tmps:=fun {W A' β' HH} hc=>by
    rw [<- he1,<- killEs_append]
    refine EnvRel.kills (hc.stp hnA) (fun b hb h=>(hc.agree b hb).1 h) (sel ++ kl) e hS.env fun j b hj hk=>?_
    have hjl:=(List.getElem?_eq_some_iff.1 hk).1
    rw [hc.same j hjl fun h=>by
      rcases h with h | h
      . have:=hrelw.len; omega
      . exact hj h]; exact hk
  obtain ⟨J,hJ⟩ : ∃ J : Option Nat -> (Nat -> Prop) -> (Nat -> Prop) -> World -> Prop,J = fun g' Bi A' W=>∃ (β' : List (Option Nat)) (HH : List Blk) (st : LoopState) (pe : Option Code),CurX (fun b=>some b ∈ β) w A β H.length (sel ++ kl) W A' β' HH /\ RBase w β Bi A' W β' /\ W.heap[w.heap.size + 1]? = some (.loop (rec st pe)) /\
      (match g' with | some i=>ok i /\ HH = SH i /\ st = .ready /\ pe = none | none=>∃ ex,ex ≠ Ex.normal /\ st = .done /\ pe = some (codeOf ex) /\ K ex e1 HH g):=⟨_,rfl⟩
  have hcalls:=hIT.2 (w.heap.size + 1) w1 A1 (namesOf sel β) vs J hfin1 (hW1.names hsel hpure hnd) (reps_names (hren ▸ ⟨hvs.1,fun i f v h1 h2=>(hvs.2 i f v h1 h2).mono (Stp.below hb1) hA1A⟩) hok) ?start ?stab ?yield
  case start =>
    rw [hJ]
    have hle' : leH (deadHs sel H).length (deadHs sel H) (SH 0):=by rw [deadHs_length]; exact hle
    have hnn : ∀ b,some b ∈ unname sel β ++ List.replicate ((SH 0).length - (deadHs sel H).length) none -> some b ∈ β:=fun b hb=>by
      obtain ⟨k,hk⟩:=mem_name (mem_nones hb)
      exact List.mem_of_getElem? ((unname_get sel β k b).1 hk).2
    have hit : ∀ b,some b ∈ namesOf sel β -> some b ∈ β:=fun b hb=>by
      obtain ⟨j,hj⟩:=mem_name hb
      obtain ⟨k,_,hk⟩:=namesOf_get hj
      exact List.mem_of_getElem? hk
    refine ⟨_,SH 0,.ready,none,hcur1.weaken hle',⟨hD1,by rw [hA1]; exact .inr (.inl rfl),by rw [hA1]; exact .inr (.inr rfl),fun h=>by have:=hnS _ (hnn _ h); omega,fun h=>by have:=hnS _ (hnn _ h); omega,fun h=>by have:=hnS _ (hit _ h); omega,fun h=>by have:=hnS _ (hit _ h); omega,fun b hb hn=>?_,fun b hb _=>hit b hb,fun b hb=>hAA1 b (hnA b (hit b hb))⟩,hL1,hok0,rfl,rfl,rfl⟩
    obtain ⟨j,hj⟩:=mem_name hb
    obtain ⟨k,hsk,hk⟩:=namesOf_get hj
    obtain ⟨k',hk'⟩:=mem_name (mem_nones hn)
    obtain ⟨h1,h2⟩:=(unname_get sel β k' b).1 hk'
    exact h1 (hrelw.inj k k' b hk h2 ▸ List.mem_of_getElem? hsk)
  case stab =>
    intro g' Bi A' W Bi2 A2 W2 hj hit
    rw [hJ] at hj ⊢
    obtain ⟨β',HH,st,pe,hc,hb,hl,hm⟩:=hj
    have hltL:=heap_lt hl
    have hltD:=heap_lt hb.dfr
    have stp : Stp A' W W2:=⟨hit.os,hit.tape,hit.output,hit.drn,hit.size,fun b hb' hn=>hit.keep b hb' fun h=>hn (hb.own b h),hit.shp⟩
    have hnot : ∀ b,b < W.heap.size -> ¬ Bi b -> ¬ Bi2 b:=fun b hb' hn h=>by
      rcases hit.sub b h with h | h
      . exact hn h
      . omega
    refine ⟨β',HH,st,pe,⟨⟨hc.rel.len,hc.rel.inj,fun k b hk=>?_,fun k o blk hk hbk=>(hc.rel.blk k o blk hk hbk).keep stp (fun b hb h=>(hit.agree b hb).1 h) (fun _ _ h=>h) fun b he=>hit.keep b (hc.rel.own k b (he ▸ hk)).2 fun h=>hb.dis b h (he ▸ List.mem_of_getElem? hk)⟩,hit.fin,hc.frm.step (C:=Bi) ⟨hit.os,hit.tape,hit.output,hit.drn,hit.size,hit.keep,hit.shp⟩ fun b hb' h=>hb.old b h hb',fun b hb'=>(hit.agree b (Nat.lt_of_lt_of_le hb' hc.frm.size)).trans (hc.agree b hb'),hc.fresh,hc.same,hc.more,hc.sub⟩,
      ⟨(hit.keep _ hltD hb.bD).trans hb.dfr,(hit.agree _ hltD).2 hb.aD,(hit.agree _ hltL).2 hb.aL,hb.nD,hb.nL,hnot _ hltD hb.bD,hnot _ hltL hb.bL,fun b h hn=>?_,fun b h hw=>?_,hit.own⟩,(hit.keep _ hltL hb.bL).trans hl,hm⟩
    . obtain ⟨h1,h2⟩:=hc.rel.own k b hk
      exact ⟨(hit.agree b h2).2 h1,Nat.lt_of_lt_of_le h2 hit.size⟩
    . rcases hit.sub b h with h | h
      . exact hb.dis b h hn
      . obtain ⟨k,hk⟩:=mem_name hn
        have:=(hc.rel.own k b hk).2; omega
    . rcases hit.sub b h with h | h
      . exact hb.old b h hw
      . have:=hc.frm.size; omega
  case yield =>
    intro i xv us Bi A' W hxi hj hfinA hBA hrx
    rw [hJ] at hj
    obtain ⟨β',HH,st,pe,hc,hb,hl,hoki,hHH,hst,hpe⟩:=hj
    subst hHH hst hpe
    obtain ⟨hxl,hrd⟩:=hround i xv hxi hoki
    have hltL:=heap_lt hl
    have hltD:=heap_lt hb.dfr
    have hul : us.toArray.size = (rec .ready none).params.size:=by rw [hrec]; simp [hrx.1,hxl]
    have hyr:=run_yield (P:=P) (args:=us.toArray) hl hul
    rw [hrec] at hyr
    refine ⟨fn,_,x,y',hyr,roundIn_of_wpIn trivial ?_⟩
    simp only [zip_list]
    have hβA : ∀ b,some b ∈ β' -> A' b:=fun b hb=>by obtain ⟨k,hk⟩:=mem_name hb; exact (hc.rel.own k b hk).1
    refine hx (m:=0) (l:=w.heap.size + 1) W A' β' H.length kl noY ⟨fun b=>some b ∈ β',fun _ _ _ _=>True⟩ noY_ok (by simp [noY]) _ _ none _ _ W A' β' _ hrd
      ⟨(Cur.start hc.rel hc.fin).x,bind_env ps.toList xv us e1 a.tmps (henv hc) hrx.1 (fun j f v h1 h2=>(hrx.2 j f v h1 h2).more _ fun k b h=>by simp at h) (fun p hp=>by rw [hS.size]; exact hps p (by simpa using hp)) hxl,by rw [foldl_size]; exact hS.size,⟨[],List.nodup_nil,rfl,fun r h=>by simp at h⟩,fun _=>rfl,trivial⟩ fun ex e' H' g' a1 W1 A2 β1 hk hs=>?_
    cases ex with
    | exit id=>exact hk.elim
    | ret=>exact hk.elim
    | normal =>
      have toCl : ∀ {W2 : World} {A3 : Nat -> Prop} {β2 : List (Option Nat)} {H2 : List Blk} {Wa : World} {Aa : Nat -> Prop} {βa : List (Option Nat)} {Ha : List Blk},CurX (fun b=>some b ∈ β) w A β H.length (sel ++ kl) Wa Aa βa Ha -> CurX (fun b=>some b ∈ βa) Wa Aa βa H.length kl W2 A3 β2 H2 -> CurX (fun b=>some b ∈ β) w A β H.length (sel ++ kl) W2 A3 β2 H2 :=
        fun h1 h2=>h1.trans (h2.less fun k _ h=>h.imp id fun h=>by simp [h]).cur
      have hl1 : W1.heap[w.heap.size + 1]? = some (.loop (rec .ready none)):=(hs.cur.frm.keep _ hltL hb.nL).trans hl
      have hnL1 : some (w.heap.size + 1) ∉ β1:=fun h=>by
        obtain ⟨k,hk'⟩:=mem_name h
        exact hb.nL (hs.cur.fresh k _ hk' hltL)
      have haL1 : A2 (w.heap.size + 1):=(hs.cur.agree _ hltL).2 hb.aL
      have c1:=toCl hc hs.cur
      refine ⟨_,run_beginRound hl1 (by rw [hrec]),?_⟩
      obtain ⟨c2,stp2⟩:=c1.put (o':=.loop { rec .ready none with state:=.busy }) hl1 (fun _ _ _ h=>by cases h) (by omega) haL1 hnL1
      have hdef1:=hs.nodef rfl
      refine hy (m:=0) (l:=w.heap.size + 1) _ A2 β1 H.length kl noY ⟨fun b=>some b ∈ β1,fun _ _ _ _=>True⟩ noY_ok (by simp [noY]) _ _ none _ _ _ A2 β1 _ hk
        ⟨(Cur.start c2.rel c2.fin).x,fun t=>(hs.env t).mono stp2 fun _ _ h=>h,hs.size,by rw [hdef1]; exact ⟨[],List.nodup_nil,rfl,fun r h=>by simp at h⟩,fun _=>hdef1,trivial⟩ fun ex e'' H'' g'' a3 W3 A3 β3 hk3 hs3=>?_
      have c3:=toCl c2 hs3.cur
      have hsz1:=hs.cur.frm.size
      have hsz2 : (W1.putObj (w.heap.size + 1) (.loop { rec .ready none with state:=.busy })).heap.size = W1.heap.size:=by simp
      have hl2 : (W1.putObj (w.heap.size + 1) (.loop { rec .ready none with state:=.busy })).heap[w.heap.size + 1]? = some (.loop { rec .ready none with state:=.busy }):=World.putObj_heap_same (by omega)
      have hl3 : W3.heap[w.heap.size + 1]? = some (.loop { rec .ready none with state:=.busy }):=(hs3.cur.frm.keep _ (by omega) hnL1).trans hl2
      have hnL3 : some (w.heap.size + 1) ∉ β3:=fun h=>by
        obtain ⟨k,hk'⟩:=mem_name h
        exact hnL1 (hs3.cur.fresh k _ hk' (by omega))
      have haL3 : A3 (w.heap.size + 1):=(hs3.cur.agree _ (by omega)).2 haL1
      -- a block that is not the walk's lies as it lay
      have out1 : ∀ b,b < W.heap.size -> some b ∉ β' -> some b ∉ β1:=fun b hb' hn h=>by
        obtain ⟨k,hk'⟩:=mem_name h
        exact hn (hs.cur.fresh k _ hk' hb')
      have out3 : ∀ b,b < W.heap.size -> some b ∉ β' -> some b ∉ β3:=fun b hb' hn h=>by
        obtain ⟨k,hk'⟩:=mem_name h
        exact out1 b hb' hn (hs3.cur.fresh k _ hk' (by omega))
      have stay : ∀ (o' : Obj) (b : Nat),b < W.heap.size -> some b ∉ β' -> b ≠ w.heap.size + 1 -> (W3.putObj (w.heap.size + 1) o').heap[b]? = W.heap[b]?:=fun o' b hb' hn hne=>by
        rw [World.putObj_heap_other hne,hs3.cur.frm.keep b (by omega) (out1 b hb' hn),World.putObj_heap_other hne,hs.cur.frm.keep b hb' hn]
      have fin : ∀ (jump : Option Code) (HX : List Blk) (gX : Option Nat) (βX : List (Option Nat)),(∀ b,some b ∈ βX -> some b ∈ β3) -> (CurX (fun b=>some b ∈ β) w A β H.length (sel ++ kl) W3 A3 βX HX) -> gX = (if jump.isNone then some (i + 1) else none) ->
          (match gX with | some i=>ok i /\ HX = SH i /\ (if jump.isNone then LoopState.ready else .done) = .ready /\ jump = none | none=>∃ ex,ex ≠ Ex.normal /\ (if jump.isNone then LoopState.ready else .done) = .done /\ jump = some (codeOf ex) /\ K ex e1 HX g) ->
          ∃ v w',(Instr.endRound (w.heap.size + 1) jump).run P W3 = .ok v w' /\ ∃ (b : Bool) (Ab : Nat -> Prop),Ending.returned v = .returned (.bool b) /\ J (if b then some (i + 1) else none) Bi Ab w' /\ RoundStep Bi A' W Ab w':=by
        intro jump HX gX βX hsub hcX hg hm
        have haA : ∀ b,b < W.heap.size -> (A3 b ↔ A' b):=fun b hb'=>(hs3.cur.agree b (by omega)).trans (hs.cur.agree b hb')
        obtain ⟨c4,stp4⟩:=hcX.put (o':=.loop { { rec .ready none with state:=.busy } with state:=if jump.isNone then .ready else .done,pending:=jump }) hl3 (fun _ _ _ h=>by cases h) (by omega) haL3 (fun h=>hnL3 (hsub _ h))
        refine ⟨_,_,run_endRound jump hl3,jump.isNone,A3,rfl,?_,⟨?_,fun b h=>stay _ b (hfinA b (hBA b h)) (hb.dis b h) (fun e=>hb.bL (e ▸ h)),haA,c4.fin⟩⟩
        . rw [hJ,<- hg]
          refine ⟨βX,HX,_,jump,c4,⟨(stay _ _ hltD hb.nD (by omega)).trans hb.dfr,(haA _ hltD).2 hb.aD,haL3,fun h=>out3 _ hltD hb.nD (hsub _ h),fun h=>hnL3 (hsub _ h),hb.bD,hb.bL,fun b h hn=>out3 b (hfinA b (hBA b h)) (hb.dis b h) (hsub b hn),hb.old,fun b h=>(haA b (hfinA b (hBA b h))).2 (hBA b h)⟩,?_,hm⟩
          rw [World.putObj_heap_same (heap_lt hl3),hrec]
        . have s1 : Stp A' W W1:=hs.cur.stp hβA
          have s2:=s1.trans stp2 fun b hb' h=>(hs.cur.agree b hb').1 h
          have s3 : Stp A2 _ W3:=hs3.cur.stp fun b hb'=>by obtain ⟨k,hk'⟩:=mem_name hb'; exact (hs.cur.rel.own k b hk').1
          exact (s2.trans s3 fun b hb' h=>(hs.cur.agree b hb').1 h).trans stp4 fun b hb' h=>(haA b hb').1 h
      cases ex with
      | normal =>
        rcases leHd_spec H'' (SH (i + 1)) hk3.2 with hH | ⟨⟨hn,hb2⟩,d,hH⟩
        . exact fin none (SH (i + 1)) (some (i + 1)) _ (fun b=>mem_nones) (c3.weaken hH) rfl ⟨hk3.1,rfl,rfl,rfl⟩
        . exact fin none (SH (i + 1)) (some (i + 1)) _ (fun b h=>mem_nones (List.mem_of_mem_take h)) ((c3.weaken hH).trunc (by have:=hrelw.len; omega) hb2) rfl ⟨hk3.1,rfl,rfl,rfl⟩
      | exit id=>exact fin (some (.exit id)) H'' none β3 (fun _ h=>h) c3 rfl ⟨.exit id,(fun h=>nomatch h),rfl,rfl,hk3⟩
      | ret=>exact fin (some .ret) H'' none β3 (fun _ h=>h) c3 rfl ⟨.ret,(fun h=>nomatch h),rfl,rfl,hk3⟩
  refine ⟨w.heap.size + 1,[{ target:=.collected w.heap.size,args:=#[] }],w1,{ target:=.fn (.func gf) vs.toArray,args:=#[.func (.yield (w.heap.size + 1)) #[] #[]] },w1,gf,(.func (.yield (w.heap.size + 1)) #[] #[]::vs).toArray,w1,?_,?_,fun _ _=>trivial,?_,fun h=>by simp [Fence.wide] at h,?_⟩
  . rw [<- hw1,hrec]; exact run_enterLoop_outer _ _ _ _ _
  . simp only [resolve,hav]
    simp [go_sem]
  . simp [invoke,go_sem,hIT.1]
  . refine callsIn_wide.2 (hcalls.mono ?_)
    rintro e' w' ⟨v,g',Bi,A',rfl,hg',hj⟩
    rw [hJ] at hj
    obtain ⟨β',HH,st,pe,hc,hb,hl,hm⟩:=hj
    have hltL:=heap_lt hl
    have hst : (rec st pe).state ≠ .busy:=by
      rw [hrec]
      cases g' with
      | some i=>rw [hm.2.2.1]; exact fun h=>nomatch h
      | none=>obtain ⟨_,_,h,_⟩:=hm; rw [h]; exact fun h=>nomatch h
    obtain ⟨c5,stp5⟩:=hc.put (o':=.loop { rec st pe with state:=.exhausted }) hl (fun _ _ _ h=>by cases h) (by omega) hb.aL hb.nL
    have cur5 : Cur w A β M ks (w'.putObj (w.heap.size + 1) (.loop { rec st pe with state:=.exhausted })) A' β' HH:=(c5.less fun k hk h=>by
      rcases h with h | h
      . have:=hrelw.len; omega
      . exact hstale k (by simpa using h)).cur
    have hsta : Sta w0 A0 β0 M ks N y Y g e1 HH { a with defers:=[{ target:=.collected w.heap.size,args:=#[] }] ++ a.defers } (w'.putObj (w.heap.size + 1) (.loop { rec st pe with state:=.exhausted })) A' β':=by
      refine ⟨hS.cur.trans cur5,henv c5,hS.size,?_,(fun h=>by rw [hout] at h; cases h),hY.stab _ _ _ _ _ _ _ _ hS.inv cur5⟩
      obtain ⟨rs,hn,hd,hr⟩:=hS.marks.step cur5
      obtain ⟨rs',hn',hd',hr'⟩:=hS.marks
      have hrs : rs = rs':=by
        have:=hd.symm.trans hd'
        exact List.map_inj_right (fun x y h=>by simpa using h) |>.1 this
      subst hrs
      refine ⟨w.heap.size::rs,List.nodup_cons.2 ⟨fun h=>by have:=heap_lt (hr' _ h).1; omega,hn⟩,by simp [hd],fun q hq=>?_⟩
      rcases List.mem_cons.1 hq with h | h
      . subst h
        exact ⟨by rw [World.putObj_heap_other (by omega)]; exact hb.dfr,hb.nD,hb.aD,hS.cur.frm.size⟩
      . exact hr q h
    refine ⟨(rec st pe).pending,(w'.putObj (w.heap.size + 1) (.loop { rec st pe with state:=.exhausted })),run_endLoop hl hst,?_⟩
    have hp : (rec st pe).pending = pe:=by rw [hrec]
    generalize (w'.putObj (w.heap.size + 1) (.loop { rec st pe with state:=.exhausted })) = w4 at hsta ⊢
    rw [hp]
    rcases hg' with rfl | rfl
    . obtain ⟨hokn,rfl,_,rfl⟩:=hm
      exact hQ .normal _ _ _ _ _ _ _ (hdone hokn) hsta
    . obtain ⟨ex,hex,_,rfl,hK⟩:=hm
      cases ex with
      | normal=>exact absurd rfl hex
      | exit id=>exact wpIn_exit (hQ (.exit id) _ _ _ _ _ _ _ hK hsta)
      | ret=>exact wpIn_ret (hQ .ret _ _ _ _ _ _ _ hK hsta)
theorem cvc_sound (hm : P.follows .mixedOrders = true) {m N : Nat} {r : Option Nat} : ∀ (c : Code) (ir : IR),comp P N c = some ir -> lawsB P N c = true -> ∀ (w0 : World) (A0 : Nat -> Prop) (β0 : List (Option Nat)) (M : Nat) (ks : List Nat) (y : Yv) (Y : Ysem),Yok P A0 β0 M ks y Y -> (y.out = true -> r = none) -> ∀ (e : Env) (H : List Blk) (g : Option Nat) (K : Ex -> Env -> List Blk -> Option Nat -> Prop) (a : Act) (w : World) (A : Nat -> Prop) (β : List (Option Nat)) (Q : Exit -> Act -> World -> Prop),
    cvc P M ks y ir e H g K -> Sta w0 A0 β0 M ks N y Y g e H a w A β -> (∀ ex e' H' g' a' w' A' β',K ex e' H' g' -> Sta w0 A0 β0 M ks N y Y g' e' H' a' w' A' β' -> Q ex.to a' w') -> c.wpIn (Fr r) m P Q a w:=by
  intro c
  induction c generalizing m r with
  | skip=>intro ir hc hl w0 A0 β0 M ks y Y hY hr e H g K a w A β Q h hS hQ; simp [comp] at hc; subst hc; exact wpIn_skip (hQ .normal _ _ _ _ _ _ _ h hS)
  | label l=>intro ir hc hl w0 A0 β0 M ks y Y hY hr e H g K a w A β Q h hS hQ; simp [comp] at hc; subst hc; exact wpIn_label (hQ .normal _ _ _ _ _ _ _ h hS)
  | region id ops d =>
    intro ir hc hl w0 A0 β0 M ks y Y hY hr e H g K a w A β Q h hS hQ
    cases d with
    | false =>
      simp only [comp] at hc
      obtain ⟨is,his,rfl⟩:=Option.map_eq_some_iff.1 hc
      have:=wpOps_of_list (F:=Fr r) (m:=m) (P:=P) (ops:=ops) ops.toList 0 a w (fun j _=>by simp) (rvc_sound hY ops.toList is his _ _ _ _ _ _ _ _ h hS fun e' H' g' a' w' A' β' hk hs=>hQ .normal _ _ _ _ _ _ _ hk hs)
      refine wpIn_region ?_
      rw [List.range_eq_range']
      simpa using this
    | true =>
      simp only [comp] at hc
      obtain ⟨is,his,rfl⟩:=Option.map_eq_some_iff.1 hc
      simp only [lawsB,his] at hl
      unfold cutRegion at h
      cases hcut : lateCut ops is with
      | none =>
        rw [hcut] at hl h
        have:=draw_sound (r:=r) (id:=id) (m:=m) (l:=ops.toList) (Q:=Q) hm hY (by simpa using his) (by simpa using hl) h hS fun e' H' g' a' w' A' β' hk hs=>hQ .normal _ _ _ _ _ _ _ hk hs
        simpa using this
      | some p =>
        obtain ⟨n,n1,L⟩:=p
        rw [hcut] at hl h
        have:=drawL_sound (r:=r) (id:=id) (m:=m) (l:=ops.toList) (Q:=Q) (n:=n) (n1:=n1) (L:=L) hm hY (by simpa using his) (by simpa using hl) h hS fun e' H' g' a' w' A' β' hk hs=>hQ .normal _ _ _ _ _ _ _ hk hs
        simpa using this
  | seq x y' ihx ihy =>
    intro ir hc hl w0 A0 β0 M ks y Y hY hr e H g K a w A β Q h hS hQ
    simp only [comp] at hc
    split at hc
    . rename_i ix iy hx hy
      cases hc
      simp only [lawsB,Bool.and_eq_true] at hl
      refine wpIn_seq (ihx ix hx hl.1 _ _ _ _ _ _ _ hY hr _ _ _ _ _ _ _ _ _ h hS fun ex e' H' g' a' w' A' β' hk hs=>?_)
      cases ex with
      | normal=>exact ihy iy hy hl.2 _ _ _ _ _ _ _ hY hr _ _ _ _ _ _ _ _ _ hk hs hQ
      | exit id=>exact hQ (.exit id) _ _ _ _ _ _ _ hk hs
      | ret=>exact hQ .ret _ _ _ _ _ _ _ hk hs
    . cases hc
  | cond c x y' ihx ihy =>
    intro ir hc hl w0 A0 β0 M ks y Y hY hr e H g K a w A β Q h hS hQ
    simp only [comp] at hc
    split at hc
    . rename_i ix iy hx hy
      cases hc
      simp only [lawsB,Bool.and_eq_true] at hl
      simp only [cvc_cond_eq] at h
      split at h
      . rename_i t ht
        have hv : a.eval c = .bool t:=rep_bool (ht ▸ ev_rep c fun t' _=>hS.env t')
        refine wpIn_cond_split hv (fun e=>?_) (fun e=>?_)
        . subst e; exact ihx ix hx hl.1 _ _ _ _ _ _ _ hY hr _ _ _ _ _ _ _ _ _ (h.t rfl) (hS.cond hv) hQ
        . subst e; exact ihy iy hy hl.2 _ _ _ _ _ _ _ hY hr _ _ _ _ _ _ _ _ _ (h.f rfl) (hS.cond hv) hQ
      . rename_i ht
        have hrep : Rep w A β .anyb (a.eval c):=ht ▸ ev_rep c fun t' _=>hS.env t'
        generalize hv : a.eval c = v at hrep
        cases hrep
        rename_i t
        refine wpIn_cond_split hv (fun e=>?_) (fun e=>?_)
        . subst e; exact ihx ix hx hl.1 _ _ _ _ _ _ _ hY hr _ _ _ _ _ _ _ _ _ h.1 (hS.cond hv) hQ
        . subst e; exact ihy iy hy hl.2 _ _ _ _ _ _ _ hY hr _ _ _ _ _ _ _ _ _ h.2 (hS.cond hv) hQ
      . exact h.elim
    . cases hc
  | block id x ih =>
    intro ir hc hl w0 A0 β0 M ks y Y hY hr e H g K a w A β Q h hS hQ
    simp only [comp] at hc
    obtain ⟨ix,hx,rfl⟩:=Option.map_eq_some_iff.1 hc
    refine wpIn_block (ih ix hx hl _ _ _ _ _ _ _ hY hr _ _ _ _ _ _ _ _ _ h hS fun ex e' H' g' a' w' A' β' hk hs=>?_)
    cases ex with
    | normal=>exact hQ .normal _ _ _ _ _ _ _ hk hs
    | exit i =>
      simp only [Ex.to,Exit.inBlock]
      simp only at hk
      split
      . rename_i hi; rw [if_pos hi] at hk; exact hQ .normal _ _ _ _ _ _ _ hk hs
      . rename_i hi; rw [if_neg hi] at hk; exact hQ (.exit i) _ _ _ _ _ _ _ hk hs
    | ret=>exact hQ .ret _ _ _ _ _ _ _ hk hs
  | loop x ih =>
    intro ir hc hl w0 A0 β0 M ks y Y hY hr e H g K a w A β Q h hS hQ
    simp only [comp] at hc
    obtain ⟨ix,hx,rfl⟩:=Option.map_eq_some_iff.1 hc
    obtain ⟨α,ok,S,SH,Sg,μ,⟨x0,hx0,hE0,hH0,rfl⟩,hround⟩:=h
    refine wpIn_loop_ghost (fun n a w=>∃ (x : α) (A : Nat -> Prop) (β : List (Option Nat)),ok x /\ μ x = n /\ Sta w0 A0 β0 M ks N y Y (Sg x) (S x) (SH x) a w A β) (μ x0) ⟨x0,A,_,hx0,rfl,hS.weaken hY hE0 hH0⟩ fun n a1 w1 ⟨x1,A1,β1,hok,hμ,hst⟩=>?_
    refine ih ix hx hl _ _ _ _ _ _ _ hY hr _ _ _ _ _ _ _ _ _ (hround x1 hok) hst fun ex e' H' g' a' w' A' β' hk hs=>?_
    cases ex with
    | normal =>
      obtain ⟨y',hy,hlt,hE,hH,hg⟩:=hk
      obtain ⟨β2,hs2⟩:=hs.weakenD hY (by have:=hS.cur.more; rw [hS.cur.rel.len] at this; exact this) hE hH
      exact ⟨μ y',by omega,y',A',β2,hy,rfl,hg ▸ hs2⟩
    | exit id=>exact hQ (.exit id) _ _ _ _ _ _ _ hk hs
    | ret=>exact hQ .ret _ _ _ _ _ _ _ hk hs
  | exit id=>intro ir hc hl w0 A0 β0 M ks y Y hY hr e H g K a w A β Q h hS hQ; simp [comp] at hc; subst hc; exact wpIn_exit (hQ (.exit id) _ _ _ _ _ _ _ h hS)
  | ret=>intro ir hc hl w0 A0 β0 M ks y Y hY hr e H g K a w A β Q h hS hQ; simp [comp] at hc; subst hc; exact wpIn_ret (hQ .ret _ _ _ _ _ _ _ h hS)
  | rangeFunc f ps x y' ihx ihy =>
    intro ir hc hl w0 A0 β0 M ks y Y hY hr e H g K a w A β Q h hS hQ
    simp only [comp] at hc
    split at hc
    . rename_i ix iy hx hy
      split at hc
      . rename_i hps
        cases hc
        simp only [lawsB,Bool.and_eq_true] at hl
        have hrn : r = none:=by
          simp only [cvc_rng_eq,RngP] at h
          split at h
          . exact hr h.1
          . exact h.elim
        subst hrn
        exact rng_sound hY (fun t ht=>by simpa using Array.all_eq_true'.1 hps t ht) (fun {m l}=>ihx (m:=m) (r:=some l) ix hx hl.1) (fun {m l}=>ihy (m:=m) (r:=some l) iy hy hl.2) h hS hQ
      . cases hc
    . cases hc
  | scope x ih =>
    intro ir hc hl w0 A0 β0 M ks y Y hY hr e H g K a w A β Q h hS hQ
    exact wpIn_scope_straight (ih ir hc hl _ _ _ _ _ _ _ hY hr _ _ _ _ _ _ _ _ _ h hS fun ex e' H' g' a' w' A' β' hk hs=>by
      have:=hQ ex e' H' g' a' w' A' β' hk hs
      cases ex <;> exact this)
  | goto l=>intro ir hc; simp [comp] at hc
  | refuse s=>intro ir hc; simp [comp] at hc
end
end
section
open Go.RowKit
section
variable {P : Program} {w0 : World} {A0 : Nat -> Prop} {β0 : List (Option Nat)} {M : Nat} {ks : List Nat} {w : World} {A : Nat -> Prop} {β : List (Option Nat)} {H : List Blk}
theorem leave_list {B0 : Nat -> Prop} {e : Env} {F : Fence} {m : Nat} {tmps : Array Value} : ∀ (rs : List Nat) (w : World),rs.Nodup -> (∀ r ∈ rs,w.heap[r]? = some (.deferred (some [])) /\ some r ∉ β /\ A r /\ w0.heap.size <= r) ->
    CurX B0 w0 A0 β0 M ks w A β H -> EnvRel w A β e tmps ->
    ∃ w'',CurX B0 w0 A0 β0 M ks w'' A β H /\ EnvRel w'' A β e tmps /\ ∀ (fn : Func) (R : Ending -> World -> Prop),LeavesIn F m P fn tmps R [] .returning w'' -> LeavesInM F m P fn tmps R (rs.map (fun r=>{ target:=.collected r,args:=#[] })) .returning w
  | [],w,_,_,hc,he=>⟨w,hc,he,fun fn R h=>h⟩
  | q :: rs, w, hn, hr, hc, he => by
    obtain ⟨hq1,hq2,hq3,hq4⟩:=hr q (by simp)
    obtain ⟨hc',stp⟩:=hc.put (o':=.deferred none) hq1 (fun _ _ _ h=>by cases h) hq4 hq3 hq2
    obtain ⟨w'',h1,h2,hl⟩:=leave_list (F:=F) (m:=m) rs (w.putObj q (.deferred none)) (List.nodup_cons.1 hn).2 (fun r hm=>by
      have hne : r ≠ q:=fun e=>(List.nodup_cons.1 hn).1 (e ▸ hm)
      have:=hr r (by simp [hm])
      exact ⟨by rw [World.putObj_heap_other hne]; exact this.1,this.2⟩) hc' (fun t=>(he t).mono stp fun _ _ h=>h)
    exact ⟨w'',h1,h2,fun fn R h=>⟨by simp,.inl ⟨q,_,rfl,run_takeDeferred hq1,hl fn R h⟩⟩⟩
theorem Sta.leave {N : Nat} {y : Yv} {Y : Ysem} {g : Option Nat} {e : Env} {a : Act} {F : Fence} {m : Nat} (h : Sta w0 A0 β0 M ks N y Y g e H a w A β) : ∃ w'',(y.out = false -> w'' = w) /\ CurX Y.B0 w0 A0 β0 M ks w'' A β H /\ EnvRel w'' A β e a.tmps /\ ∀ (fn : Func) (R : Ending -> World -> Prop),LeavesIn F m P fn a.tmps R [] .returning w'' -> LeavesInM F m P fn a.tmps R a.defers .returning w:=by
  cases ho : y.out with
  | false=>exact ⟨w,fun _=>rfl,h.cur,h.env,fun fn R hl=>by rw [h.nodef ho]; exact hl⟩
  | true =>
    obtain ⟨rs,hn,hd,hr⟩:=h.marks
    obtain ⟨w'',h1,h2,h3⟩:=leave_list (P:=P) (F:=F) (m:=m) rs w hn hr h.cur h.env
    exact ⟨w'',fun h=>(by cases h),h1,h2,fun fn R hl=>by rw [hd]; exact h3 fn R hl⟩
/-! ### Results -/
inductive RV where
  | t (n : Nat)
  | c (s : Nat) (ag : Bool) (n : Nat)
def cRes (P : Program) : ResultVar → Option RV
  | .tmp t=>some (.t t)
  | .cell a t => match szOf P t, aggOf P t with
    | some s,some ag=>some (.c s ag a)
    | _,_=>none
def resL (e : Env) (H : List Blk) : List RV -> (List SV -> Prop) -> Prop
  | [],K=>K []
  | .t n::rs,K=>resL e H rs fun vs=>K (look e n::vs)
  | .c s ag n::rs,K=>ldK s ag (look e n) H fun sv=>resL e H rs fun vs=>K (sv::vs)
def resV : List SV -> SV
  | [x]=>x
  | xs=>.tup xs
def resK (rs : List RV) (e : Env) (H : List Blk) (K : SV -> Prop) : Prop:=resL e H rs fun vs=>K (resV vs)
theorem ld_run {t : TypeId} {s : Nat} {ag : Bool} (hs : szOf P t = some s) (hag : aggOf P t = some ag) {p : SV} {K : SV -> Prop} (h : ldK s ag p H K) : ∃ sv,K sv /\ ∀ (w : World) (A : Nat -> Prop) (β : List (Option Nat)) (v : Value),WB w A β H -> Rep w A β p v ->
    ∃ ad u,v = .pointer (some ad) /\ (loadVar t ad).run P w = .ok u w /\ Rep w A β sv u:=by
  unfold ldK at h
  split at h
  . rename_i cells j
    obtain ⟨sv,hK,hp⟩:=partK_ex h
    refine ⟨sv,hK,fun w A β v hW hrep=>?_⟩
    cases hrep
    rename_i b off vs hm hcs
    obtain ⟨⟨cs,T,fr,hb,hcell⟩,hA,_⟩:=hm
    obtain ⟨u,h1,h2⟩:=part_load hs hag (A:=A) (β:=[]) hp hb (base:=off) fun j c hc=>by
      have hj : j < cells.length:=(List.getElem?_eq_some_iff.1 hc).1
      have:=hcell 0 cells j (by simp) hj
      simp only [Nat.zero_mul,Nat.add_zero] at this
      exact ⟨_,this,hcs j c hc⟩
    exact ⟨_,u,rfl,h1,h2.more _ fun k b h=>by simp at h⟩
  . rename_i k wd i j
    split at h
    . rename_i cells hk
      obtain ⟨sv,hK,hp⟩:=partK_ex h
      refine ⟨sv,hK,fun w A β v hW hrep=>?_⟩
      cases hrep
      rename_i b hb
      obtain ⟨cs,T,h1,h2,h3⟩:=hW.blk k (some b) _ hb hk
      have:=part_load hs hag (A:=A) (β:=β) hp h1 (base:=0) fun j c hc=>by
        have hj : j < cs.length:=by rw [h2]; exact (List.getElem?_eq_some_iff.1 hc).1
        exact ⟨cs[j],by simp [hj],h3 j c _ hc (by simp [hj])⟩
      obtain ⟨u,h5,h6⟩:=this
      exact ⟨_,u,rfl,by simpa using h5,h6⟩
    . rename_i wd' xs hk
      obtain ⟨rfl,x',hx',h⟩:=h
      obtain ⟨sv,hK,hp⟩:=partK_ex h
      refine ⟨sv,hK,fun w A β v hW hrep=>?_⟩
      cases hrep
      rename_i b hb
      obtain ⟨cs,T,h1,h2,h3⟩:=hW.blk k (some b) _ hb hk
      obtain ⟨hl,h4⟩:=h3 i x' hx'
      obtain ⟨u,h5,h6⟩:=part_load hs hag (A:=A) (β:=[]) hp h1 (base:=i * wd') fun j c hc=>by
        obtain ⟨v,h7,h8⟩:=h4 j c hc
        exact ⟨v,by simpa using h7,h8⟩
      exact ⟨_,u,rfl,h5,h6.more _ fun k b h=>by simp at h⟩
    . exact h.elim
  . exact h.elim
def rvSem (tmps : Array Value) : ResultVar -> Sem Value
  | .tmp t=>pure (tmps.getD t undef)
  | .cell a t=>do loadVar t (<- asAddr (tmps.getD a undef))
theorem results_eq (fn : Func) (tmps : Array Value) : results fn tmps = (do let vs <- fn.results.mapM (rvSem tmps); pure (if h : vs.size = 1 then vs[0] else .tuple vs)):=by
  unfold results
  have h : ∀ (f : ResultVar -> Sem Value),(∀ x,f x = rvSem tmps x) -> (do let vs <- fn.results.mapM f; (pure (if h : vs.size = 1 then vs[0] else .tuple vs) : Sem Value)) = (do let vs <- fn.results.mapM (rvSem tmps); pure (if h : vs.size = 1 then vs[0] else .tuple vs)):=fun f hf=>by
    rw [funext hf]
  exact h _ fun x=>by cases x <;> rfl
theorem resL_run {e : Env} : ∀ (rvs : List ResultVar) (rs : List RV),rvs.mapM (cRes P) = some rs -> ∀ (K : List SV -> Prop),resL e H rs K -> ∃ vs,K vs /\ ∀ (w : World) (A : Nat -> Prop) (β : List (Option Nat)) (tmps : Array Value),WB w A β H -> EnvRel w A β e tmps ->
    ∃ us,(rvs.mapM (rvSem tmps)).run P w = .ok us w /\ Reps w A β vs us
  | [], rs, hm, K, h => by
    simp at hm; subst hm
    exact ⟨[],h,fun w A β tmps _ _=>⟨[],by simp [Sem.run_pure],rfl,fun i f v h=>by simp at h⟩⟩
  | rv :: rvs, rs, hm, K, h => by
    simp only [List.mapM_cons,Option.bind_eq_bind,Option.pure_def] at hm
    obtain ⟨r,hr,hm⟩:=Option.bind_eq_some_iff.1 hm
    obtain ⟨rs',hrs,hm⟩:=Option.bind_eq_some_iff.1 hm
    cases hm
    have cons : ∀ {w : World} {A : Nat -> Prop} {β : List (Option Nat)} {sv : SV} {vs : List SV} {u : Value} {us : List Value},Rep w A β sv u -> Reps w A β vs us -> Reps w A β (sv::vs) (u::us):=fun h1 h2=>⟨by simp [h2.1],fun i f v hf hv=>by
      cases i with
      | zero=>simp at hf hv; subst hf hv; exact h1
      | succ i=>exact h2.2 i f v (by simpa using hf) (by simpa using hv)⟩
    cases rv with
    | tmp t =>
      simp only [cRes,Option.some.injEq] at hr; subst hr
      obtain ⟨vs,hK,hrun⟩:=resL_run rvs rs' hrs _ h
      refine ⟨_,hK,fun w A β tmps hW hE=>?_⟩
      obtain ⟨us,h1,h2⟩:=hrun w A β tmps hW hE
      exact ⟨_,by simp only [List.mapM_cons,rvSem,Sem.run_bind,Sem.run_pure,Result.andThen_ok,h1],cons (hE t) h2⟩
    | cell a t =>
      simp only [cRes] at hr
      split at hr
      . rename_i s ag hs hag
        cases hr
        obtain ⟨sv,h',hld⟩:=ld_run hs hag h
        obtain ⟨vs,hK,hrun⟩:=resL_run rvs rs' hrs _ h'
        refine ⟨_,hK,fun w A β tmps hW hE=>?_⟩
        obtain ⟨us,h1,h2⟩:=hrun w A β tmps hW hE
        obtain ⟨ad,u,h3,h4,h5⟩:=hld w A β _ hW (hE a)
        exact ⟨_,by simp only [List.mapM_cons,rvSem,h3,asAddr,Sem.run_bind,Sem.run_pure,Result.andThen_ok,h4,h1],cons h5 h2⟩
      . cases hr
theorem resK_run {fn : Func} {rs : List RV} (hrs : fn.results.toList.mapM (cRes P) = some rs) {e : Env} {K : SV -> Prop} (h : resK rs e H K) : ∃ sv,K sv /\ ∀ (w : World) (A : Nat -> Prop) (β : List (Option Nat)) (tmps : Array Value),WB w A β H -> EnvRel w A β e tmps ->
    ∃ v,(results fn tmps).run P w = .ok v w /\ Rep w A β sv v:=by
  obtain ⟨vs,hK,hrun⟩:=resL_run _ _ hrs _ h
  refine ⟨_,hK,fun w A β tmps hW hE=>?_⟩
  obtain ⟨us,h1,h2⟩:=hrun w A β tmps hW hE
  rw [results_eq,Array.mapM_eq_mapM_toList]
  simp only [Sem.run_bind,map_eq_pure_bind,h1,Result.andThen_ok,Sem.run_pure]
  refine ⟨_,rfl,?_⟩
  have hlen:=h2.1
  match vs,us,hlen with
  | [x],[u],_=>exact h2.2 0 x u rfl rfl
  | [],[],_=>exact .tup _ _ _ rfl fun i f v h=>by simp at h
  | x::y::vs,u::u'::us,hl=>exact .tup _ _ _ hl h2.2
end
end
section
open Go.RowKit
section
variable {P : Program} {H : List Blk}
/-! ### Functions -/
def argE : Nat -> List SV -> Env
  | _,[]=>[]
  | i,x::xs=>(i,x)::argE (i + 1) xs
theorem look_argE : ∀ (xs : List SV) (i t : Nat),look (argE i xs) t = if i <= t then (xs[t - i]?).getD .any else .any
  | [],i,t=>by simp [argE,look]
  | x :: xs, i, t => by
    simp only [argE,look]
    split
    . rename_i h; subst h; simp
    . rename_i h
      rw [look_argE xs (i + 1) t]
      by_cases hle : i <= t
      . rw [if_pos (by omega),if_pos hle,show t - i = t - (i + 1) + 1 by omega]; rfl
      . rw [if_neg (by omega),if_neg hle]
def finK (ex : Ex) (p : Prop) : Prop :=
  match ex with
  | .exit _=>False
  | _=>p
theorem Yok.nil {A0 : Nat -> Prop} {y : Yv} (hy : y.xs = []) (hy2 : ∀ op e H,y.oth op e H = none) (hy3 : ∀ M ks op e H,y.othH M ks op e H = none) {β0 β1 : List (Option Nat)} {M : Nat} {ks : List Nat} : Yok P A0 β1 M ks y ⟨fun b=>some b ∈ β0,fun _ _ _ _=>True⟩ :=
  ⟨fun _ _ _ _ _ _ _ _ _ _=>trivial,fun _ _ _ _ _ _ _ _ _=>trivial,fun _ h=>absurd hy h,fun i x us w A β hx=>by rw [hy] at hx; simp at hx,fun _ op e H _ _ h=>(by rw [hy2] at h; cases h),fun _ op e H _ _ h=>(by rw [hy3] at h; cases h)⟩
def outY : Yv:={ out:=true,l:=0,xs:=[] }
theorem args_env {w : World} {A : Nat -> Prop} {β : List (Option Nat)} {args : List SV} {vs : List Value} {N : Nat} (hr : Reps w A β args vs) : EnvRel w A β (argE 0 args) (vs.toArray ++ Array.replicate (N - vs.toArray.size) undef):=by
  intro t
  rw [look_argE,if_pos (Nat.zero_le _),Nat.sub_zero]
  by_cases ht : t < args.length
  . have hv : t < vs.length:=by rw [hr.1]; exact ht
    have:=hr.2 t args[t] vs[t] (by simp [ht]) (by simp [hv])
    simpa [ht,Array.getD_eq_getD_getElem?,hv,Array.getElem?_append] using this
  . rw [List.getElem?_eq_none (by omega)]; exact .any _ _
structure Code1 (P : Program) (f : FuncId) (N : Nat) (ir : IR) (rs : List RV) : Prop where
  enter : ∀ vs w,(callFunc f vs).run P w = .ok (.enter f vs) w
  code : ∃ (fn : Func) (c : Code),P.funcs[f]? = some fn /\ fn.body = some c /\ fn.ntmps = N /\ comp P N c = some ir /\ lawsB P N c = true /\ fn.results.toList.mapM (cRes P) = some rs
theorem calls_of_cvc (hm : P.follows .mixedOrders = true) {f : FuncId} {N : Nat} {ir : IR} {rs : List RV} (hc : Code1 P f N ir rs) {M : Nat} {ks : List Nat} {args : List SV} (hN : args.length <= N) {R : SV -> List Blk -> Option Nat -> Prop}
    {w : World} {A : Nat -> Prop} {β : List (Option Nat)} {vs : List Value} {y : Yv} {Y : Ysem} {g : Option Nat} (hY : Yok P A β M ks y Y) (hB : ∀ b,some b ∈ β -> Y.B0 b) (h : cvc P M ks y ir (argE 0 args) H g fun ex e' H' g'=>finK ex (resK rs e' H' fun sv=>R sv H' g'))
    (hfin : ∀ b,A b -> b < w.heap.size) (hW : WRel w A β H) (hr : Reps w A β args vs) (hX : Y.X g w A β) :
    Calls P f vs.toArray w fun e w'=>∃ (v : Value) (A' : Nat -> Prop) (β' : List (Option Nat)) (sv : SV) (H' : List Blk) (g' : Option Nat),e = .returned v /\ R sv H' g' /\ CurX Y.B0 w A β M ks w' A' β' H' /\ Rep w' A' β' sv v /\ (y.out = false -> Y.X g' w' A' β'):=by
  obtain ⟨fn,c,hf,hb,rfl,hcomp,hl,hrs⟩:=hc.code
  refine callsIn_wide.1 (callsIn_of_wp_marks (n:=0) hf hb trivial ?_)
  have hsz : (vs.toArray ++ Array.replicate (fn.ntmps - vs.toArray.size) undef).size = fn.ntmps:=by
    simp [hr.1]; omega
  refine cvc_sound (r:=none) hm c ir hcomp hl w A β _ _ y Y hY (fun _=>rfl) _ _ _ _ _ _ A β _ h ⟨⟨hW,hfin,FrmB.refl _ _,fun _ _=>Iff.rfl,fun _ _ h _=>List.mem_of_getElem? h,fun _ _ _=>rfl,Nat.le_refl _,hB⟩,args_env hr,hsz,⟨[],List.nodup_nil,rfl,fun r h=>by simp at h⟩,fun _=>rfl,hX⟩ fun ex e' H' g' a' w' A' β' hk hs=>?_
  obtain ⟨w'',hw,hcur,henv,hlv⟩:=hs.leave (F:=Fr none) (m:=0) (P:=P)
  have fin : finK ex (resK rs e' H' fun sv=>R sv H' g') -> LeavesInM (Fr none) 0 P fn a'.tmps (fun e w'=>∃ (v : Value) (A' : Nat -> Prop) (β' : List (Option Nat)) (sv : SV) (H' : List Blk) (g' : Option Nat),e = .returned v /\ R sv H' g' /\ CurX Y.B0 w A β M ks w' A' β' H' /\ Rep w' A' β' sv v /\ (y.out = false -> Y.X g' w' A' β')) a'.defers .returning w':=fun hk=>by
    have hk' : resK rs e' H' fun sv=>R sv H' g':=by cases ex <;> first | exact hk | exact hk.elim
    obtain ⟨sv,hR,hrun⟩:=resK_run hrs hk'
    obtain ⟨v,h1,h2⟩:=hrun w'' A' β' a'.tmps hcur.rel.wb henv
    exact hlv fn _ ⟨v,h1,v,A',β',sv,H',g',rfl,hR,hcur,h2,fun ho=>by rw [hw ho]; exact hs.inv⟩
  cases ex with
  | normal=>exact fin hk
  | ret=>exact fin hk
  | exit id=>exact hk.elim
theorem fs_of_cvc (hm : P.follows .mixedOrders = true) {f : FuncId} {N : Nat} {ir : IR} {rs : List RV} (hc : Code1 P f N ir rs) {args : List SV} {res : SV} (hN : args.length <= N)
    (h : cvc P 0 [] outY ir (argE 0 args) [] none fun ex e' H' _=>finK ex (resK rs e' H' fun sv=>frzK 4 H' sv fun y=>leV 0 y res)) : FS P f args res:=by
  refine ⟨hc.enter,fun w A vs hfin hlen hr=>(calls_of_cvc hm hc hN (R:=fun sv H' _=>frzK 4 H' sv fun y=>leV 0 y res) (Yok.nil (β0:=[]) rfl (fun _ _ _=>rfl) fun _ _ _ _ _=>rfl) (fun b h=>by simp at h) h hfin (WRel.nil w A) ⟨hlen,hr⟩ trivial).mono ?_⟩
  rintro e w' ⟨v,A',β',sv,H',g',rfl,hR,hcur,hrep,_⟩
  obtain ⟨y,hy,hfz⟩:=frzK_sound 4 sv _ hR
  refine ⟨v,rfl,⟨hcur.frm.os,hcur.frm.tape,hcur.frm.output,hcur.frm.drn,hcur.frm.size,fun b hb=>hcur.frm.keep b hb (by simp)⟩,leV_rep hy (hfz w' A' A β' v hcur.rel.wb (fun b hb=>(hcur.agree b (hfin b hb)).2 hb) (fun k b _ hk _ _ ha=>?_) hrep)⟩
  have:=hcur.fresh k b hk (hfin b ha)
  simp at this
def dropR (n0 : Nat) (res : SV) (Hr : List Blk) : Prop:=n0 <= Hr.length /\ res.bnd Hr.length = true /\ bndH Hr.length Hr = true
theorem hs_of_cvc (hm : P.follows .mixedOrders = true) {f : FuncId} {N : Nat} {ir : IR} {rs : List RV} (hc : Code1 P f N ir rs) {args : List SV} {res : SV} {Hr : List Blk} {ks : List Nat} (hN : args.length <= N)
    (h : cvc P H.length ks outY ir (argE 0 args) H none fun ex e' H' _=>finK ex (resK rs e' H' fun sv=>leV H'.length sv res /\ leHd (dropR H.length res Hr) H'.length H' Hr)) : HS P f args H res Hr ks:=by
  refine ⟨hc.enter,fun w A β vs hfin hW hr=>(calls_of_cvc hm hc hN (R:=fun sv H' _=>leV H'.length sv res /\ leHd (dropR H.length res Hr) H'.length H' Hr) (Yok.nil (β0:=β) rfl (fun _ _ _=>rfl) fun _ _ _ _ _=>rfl) (fun b h=>h) h hfin hW hr trivial).mono ?_⟩
  rintro e w' ⟨v,A',β',sv,H',g',rfl,⟨hR,hRH⟩,hcur,hrep,_⟩
  have hl:=hW.len
  have main : ∃ β'',Cur w A β H.length ks w' A' β'' Hr /\ Rep w' A' β'' res v:=by
    rcases leHd_spec H' Hr hRH with hH | ⟨⟨h1,h2,h3⟩,d,hH⟩
    . exact ⟨_,(hcur.weaken hH).cur,leV_rep hR (hrep.more _ nones_more)⟩
    . exact ⟨_,((hcur.weaken hH).trunc (by omega) h3).cur,(leV_rep hR (hrep.more _ nones_more)).trunc _ h2⟩
  obtain ⟨β'',hw,hv⟩:=main
  refine ⟨v,A',β'',rfl,hw.frm,hw.fin,hw.rel,hw.agree,hw.fresh,fun k hk hn=>hw.same k hk fun h=>?_,hw.more,hv⟩
  rcases h with h | h
  . omega
  . exact hn h
inductive Mat (sel : List (Option Nat)) : SV -> SV -> Prop
  | same (x : SV) (h : x.pure = true) : Mat sel x x
  | ptr (j k wd i o : Nat) (h : sel[j]? = some (some k)) : Mat sel (.ptr j wd i o) (.ptr k wd i o)
  | osl (j k wd i n : Nat) (h : sel[j]? = some (some k)) : Mat sel (.osl j wd i n) (.osl k wd i n)
  | nil (j wd : Nat) : Mat sel (.osl j wd 0 0) .nils
  | agg (fs gs : List SV) (hl : fs.length = gs.length) (h : ∀ (i : Nat) (f g : SV),fs[i]? = some f -> gs[i]? = some g -> Mat sel f g) : Mat sel (.agg fs) (.agg gs)
  | tup (fs gs : List SV) (hl : fs.length = gs.length) (h : ∀ (i : Nat) (f g : SV),fs[i]? = some f -> gs[i]? = some g -> Mat sel f g) : Mat sel (.tup fs) (.tup gs)
  | fn (c : FuncId) (fs gs : List SV) (hl : fs.length = gs.length) (h : ∀ (i : Nat) (f g : SV),fs[i]? = some f -> gs[i]? = some g -> Mat sel f g) : Mat sel (.fn c fs) (.fn c gs)
def MatL (sel : List (Option Nat)) (fs gs : List SV) : Prop:=fs.length = gs.length /\ ∀ (i : Nat) (f g : SV),fs[i]? = some f -> gs[i]? = some g -> Mat sel f g
theorem MatL.nil {sel : List (Option Nat)} : MatL sel [] []:=⟨rfl,fun i f g h=>by simp at h⟩
theorem MatL.cons {sel : List (Option Nat)} {f g : SV} {fs gs : List SV} (h : Mat sel f g) (t : MatL sel fs gs) : MatL sel (f::fs) (g::gs):=⟨by simp [t.1],fun i f' g' h1 h2=>by
  cases i with
  | zero=>simp at h1 h2; subst h1 h2; exact h
  | succ i=>exact t.2 i f' g' (by simpa using h1) (by simpa using h2)⟩
theorem MatL.agg {sel : List (Option Nat)} {fs gs : List SV} (t : MatL sel fs gs) : Mat sel (.agg fs) (.agg gs):=.agg _ _ t.1 t.2
theorem MatL.tup {sel : List (Option Nat)} {fs gs : List SV} (t : MatL sel fs gs) : Mat sel (.tup fs) (.tup gs):=.tup _ _ t.1 t.2
theorem MatL.fn {sel : List (Option Nat)} {c : FuncId} {fs gs : List SV} (t : MatL sel fs gs) : Mat sel (.fn c fs) (.fn c gs):=.fn _ _ _ t.1 t.2
def selN (sel : List (Option Nat)) (β : List (Option Nat)) : List (Option Nat):=sel.map fun o=>o.bind fun k=>(β[k]?).join
theorem selN_put {sel β : List (Option Nat)} {j k b : Nat} (hj : sel[j]? = some (some k)) (hk : β[k]? = some (some b)) : (selN sel β)[j]? = some (some b):=by simp [selN,hj,hk]
theorem selN_get {sel β : List (Option Nat)} {j b : Nat} (h : (selN sel β)[j]? = some (some b)) : ∃ k,sel[j]? = some (some k) /\ β[k]? = some (some b):=by
  simp only [selN,List.getElem?_map,Option.map_eq_some_iff] at h
  obtain ⟨o,ho,h⟩:=h
  cases o with
  | none=>simp at h
  | some k =>
    refine ⟨k,ho,?_⟩
    simp only [Option.bind_some] at h
    cases hb : β[k]? with
    | none=>simp [hb] at h
    | some o=>simp [hb] at h; rw [h]
theorem Rep.mat {w : World} {A : Nat -> Prop} {β sel : List (Option Nat)} {res sv : SV} (h : Mat sel res sv) : ∀ {v : Value},Rep w A β sv v -> Rep w A (selN sel β) res v:=by
  induction h with
  | same x h=>exact fun hr=>hr.purely h _
  | ptr j k wd i o h=>intro v hr; cases hr; rename_i b hb; exact .ptr _ _ _ _ _ _ (selN_put h hb)
  | osl j k wd i n h =>
    intro v hr
    cases hr with
    | oslZ=>exact .oslZ _ _ _ _ _
    | osl _ _ _ _ _ b cap hb hc hs=>exact .osl _ _ _ _ _ _ _ (selN_put h hb) hc hs
  | nil j wd=>intro v hr; cases hr; exact .oslZ _ _ _ _ _
  | agg fs gs hl _ ih =>
    intro v hr
    cases hr
    rename_i vs hvl hv
    refine .agg _ _ _ (by omega) fun i f u h1 h2=>?_
    have hi : i < gs.length:=by rw [<- hl]; exact (List.getElem?_eq_some_iff.1 h1).1
    exact ih i f _ h1 (List.getElem?_eq_getElem hi) (hv i _ u (List.getElem?_eq_getElem hi) h2)
  | tup fs gs hl _ ih =>
    intro v hr
    cases hr
    rename_i vs hvl hv
    refine .tup _ _ _ (by omega) fun i f u h1 h2=>?_
    have hi : i < gs.length:=by rw [<- hl]; exact (List.getElem?_eq_some_iff.1 h1).1
    exact ih i f _ h1 (List.getElem?_eq_getElem hi) (hv i _ u (List.getElem?_eq_getElem hi) h2)
  | fn c fs gs hl _ ih =>
    intro v hr
    cases hr
    rename_i vs hvl hv
    refine .fn _ _ _ _ (by omega) fun i f u h1 h2=>?_
    have hi : i < gs.length:=by rw [<- hl]; exact (List.getElem?_eq_some_iff.1 h1).1
    exact ih i f _ h1 (List.getElem?_eq_getElem hi) (hv i _ u (List.getElem?_eq_getElem hi) h2)
theorem WRel.sel {w : World} {A : Nat -> Prop} {β sel : List (Option Nat)} {H Hn : List Blk} (h : WRel w A β H) (hl : sel.length = Hn.length) (hs : ∀ j k : Nat,sel[j]? = some (some k) -> H[k]? = Hn[j]?) (hd : ∀ i j k : Nat,sel[i]? = some (some k) -> sel[j]? = some (some k) -> i = j) (hp : Hn.all okBlk = true) : WRel w A (selN sel β) Hn:=by
  refine ⟨by simp [selN,hl],fun i j b h1 h2=>?_,fun j b hj=>?_,fun j o blk hj hb=>?_⟩
  . obtain ⟨k1,e1,f1⟩:=selN_get h1
    obtain ⟨k2,e2,f2⟩:=selN_get h2
    have:=h.inj k1 k2 b f1 f2
    subst this
    exact hd i j k1 e1 e2
  . obtain ⟨k,_,hk⟩:=selN_get hj
    exact h.own k b hk
  . cases o with
    | none=>trivial
    | some b =>
      obtain ⟨k,e,hk⟩:=selN_get hj
      have h1:=h.blk k _ blk hk (by rw [hs j k e,hb])
      have hok:=List.all_eq_true.1 hp blk (List.mem_of_getElem? hb)
      cases blk with
      | dead=>trivial
      | shut=>trivial
      | vars cells =>
        obtain ⟨cs,T,h2,h3,h4⟩:=h1
        exact ⟨cs,T,h2,h3,fun j c v hc hv=>(h4 j c v hc hv).purely (pureL_mem hok j c hc) _⟩
      | arr wd xs=>exact h1
def FoS (H' : List Blk) (sv res : SV) (Hn : List Blk) : Prop :=
  ∃ sel : List (Option Nat),Mat sel res sv /\ sel.length = Hn.length /\ (∀ j k : Nat,sel[j]? = some (some k) -> H'[k]? = Hn[j]?) /\ (∀ i j k : Nat,sel[i]? = some (some k) -> sel[j]? = some (some k) -> i = j) /\ Hn.all okBlk = true
theorem FoS.one {H' : List Blk} {sv res : SV} {blk : Blk} (k : Nat) (h : Mat [some k] res sv) (hk : H'[k]? = some blk) (hp : okBlk blk = true) : FoS H' sv res [blk]:=by
  have h0 : ∀ j k' : Nat,[some k][j]? = some (some k') -> j = 0 /\ k' = k:=fun j k' hj=>by
    cases j with
    | zero=>simp at hj; exact ⟨rfl,hj.symm⟩
    | succ j=>simp at hj
  exact ⟨[some k],h,rfl,fun j k' hj=>by obtain ⟨rfl,rfl⟩:=h0 j k' hj; simp [hk],fun i j k' h1 h2=>by rw [(h0 i k' h1).1,(h0 j k' h2).1],by simp [hp]⟩
theorem FoS.no {H' : List Blk} {sv res : SV} {blk : Blk} (h : Mat [none] res sv) (hp : okBlk blk = true) : FoS H' sv res [blk] :=
  ⟨[none],h,rfl,fun j k' hj=>by cases j <;> simp at hj,fun i j k' h1=>by cases i <;> simp at h1,by simp [hp]⟩
theorem FoS.two {H' : List Blk} {sv res : SV} {b1 b2 : Blk} (k1 k2 : Nat) (hne : k1 ≠ k2) (h : Mat [some k1,some k2] res sv) (h1 : H'[k1]? = some b1) (h2 : H'[k2]? = some b2) (hp1 : okBlk b1 = true) (hp2 : okBlk b2 = true) : FoS H' sv res [b1,b2]:=by
  have h0 : ∀ j k' : Nat,[some k1,some k2][j]? = some (some k') -> (j = 0 /\ k' = k1) \/ (j = 1 /\ k' = k2):=fun j k' hj=>by
    cases j with
    | zero=>simp at hj; exact .inl ⟨rfl,hj.symm⟩
    | succ j => cases j with
      | zero=>simp at hj; exact .inr ⟨rfl,hj.symm⟩
      | succ j=>simp at hj
  refine ⟨[some k1,some k2],h,rfl,fun j k' hj=>?_,fun i j k' e1 e2=>?_,by simp [hp1,hp2]⟩
  . rcases h0 j k' hj with ⟨rfl,rfl⟩ | ⟨rfl,rfl⟩
    . simp [h1]
    . simp [h2]
  . rcases h0 i k' e1 with ⟨rfl,rfl⟩ | ⟨rfl,rfl⟩ <;> rcases h0 j _ e2 with ⟨rfl,e⟩ | ⟨rfl,e⟩ <;> first | rfl | exact absurd e hne | exact absurd e.symm hne
def FoP (H' : List Blk) (sv res : SV) (Hn : List Blk) : Prop :=
  (∃ sel : List Nat,renV sel res = sv /\ sel.map (fun k=>H'[k]?) = Hn.map some /\ sel.Nodup /\ Hn.all okBlk = true /\ okCap sel.length res = true) \/ (sv = .nils /\ ∃ wd,res = .osl 0 wd 0 0 /\ Hn = [.arr wd []]) \/ FoS H' sv res Hn
theorem fo_of_cvc (hm : P.follows .mixedOrders = true) {f : FuncId} {N : Nat} {ir : IR} {rs : List RV} (hc : Code1 P f N ir rs) {args : List SV} {res : SV} {Hn : List Blk} (hN : args.length <= N)
    (h : cvc P 0 [] outY ir (argE 0 args) [] none fun ex e' H' _=>finK ex (resK rs e' H' fun sv=>FoP H' sv res Hn)) : FO P f args res Hn:=by
  refine ⟨hc.enter,fun w A vs hfin hr=>(calls_of_cvc hm hc hN (R:=fun sv H' _=>FoP H' sv res Hn) (Yok.nil (β0:=[]) rfl (fun _ _ _=>rfl) fun _ _ _ _ _=>rfl) (fun b h=>by simp at h) h hfin (WRel.nil w A) hr trivial).mono ?_⟩
  rintro e w' ⟨v,A',β',sv,H',g',rfl,hR,hcur,hrep,_⟩
  have hbelow : Belo w.heap.size w w':=⟨hcur.frm.os,hcur.frm.tape,hcur.frm.output,hcur.frm.drn,hcur.frm.size,fun b hb=>hcur.frm.keep b hb (by simp)⟩
  have hAA : ∀ b,A b -> A' b:=fun b hb=>(hcur.agree b (hfin b hb)).2 hb
  have hnew : ∀ b,some b ∈ β' -> w.heap.size <= b:=fun b hb=>by
    obtain ⟨k,hk⟩:=mem_name hb
    by_cases hlt : b < w.heap.size
    . have:=hcur.fresh k b hk hlt; simp at this
    . omega
  rcases hR with ⟨sel,hren,hsel,hnd,hp,hok⟩ | ⟨rfl,wd,rfl,rfl⟩ | ⟨sel,hmat,hsl,hsH,hsd,hp⟩
  . have hmem : ∀ b,some b ∈ namesOf sel β' -> some b ∈ β':=fun b hb=>by
      obtain ⟨j,hj⟩:=mem_name hb
      obtain ⟨k,_,hk⟩:=namesOf_get hj
      exact List.mem_of_getElem? hk
    have hsub : ∀ b,(A b \/ some b ∈ namesOf sel β') -> A' b:=fun b hb=>by
      rcases hb with hb | hb
      . exact hAA b hb
      . obtain ⟨k,hk⟩:=mem_name (hmem b hb)
        exact (hcur.rel.own k b hk).1
    have hW:=hcur.rel.names hsel hp hnd
    refine ⟨v,namesOf sel β',rfl,hbelow,⟨hW.len,hW.inj,fun k b hk=>⟨.inr (List.mem_of_getElem? hk),(hW.own k b hk).2⟩,fun k o blk hk hb=>(hW.blk k o blk hk hb).keep (Stp.refl _ _) (fun b _ hb=>hsub b hb) (fun _ _ h=>h) fun _ _=>rfl⟩,fun b hb=>hnew b (hmem b hb),?_⟩
    have h1:=(reps_names (sel:=sel) (caps:=[res]) (vs:=[v]) (β:=β') ⟨rfl,fun i f u hf hu=>by
      cases i with
      | zero=>simp at hf hu; subst hf hu; rw [hren]; exact hrep
      | succ i=>simp at hf⟩ (by simp [hok])).2 0 res v rfl rfl
    exact h1.mono (Stp.refl _ _) fun b _ hb=>hsub b hb
  . refine ⟨v,[none],rfl,hbelow,⟨rfl,fun k k' b hk=>?_,fun k b hk=>?_,fun k o blk hk hb=>?_⟩,fun b hb=>by simp at hb,?_⟩
    . cases k <;> simp at hk
    . cases k <;> simp at hk
    . cases k with
      | zero=>simp at hk; subst hk; trivial
      | succ k=>simp at hk
    . cases hrep
      exact .oslZ _ _ _ _ _
  . have hmem : ∀ b,some b ∈ selN sel β' -> some b ∈ β':=fun b hb=>by
      obtain ⟨j,hj⟩:=mem_name hb
      obtain ⟨k,_,hk⟩:=selN_get hj
      exact List.mem_of_getElem? hk
    have hsub : ∀ b,(A b \/ some b ∈ selN sel β') -> A' b:=fun b hb=>by
      rcases hb with hb | hb
      . exact hAA b hb
      . obtain ⟨k,hk⟩:=mem_name (hmem b hb)
        exact (hcur.rel.own k b hk).1
    have hW:=hcur.rel.sel hsl hsH hsd hp
    exact ⟨v,selN sel β',rfl,hbelow,⟨hW.len,hW.inj,fun k b hk=>⟨.inr (List.mem_of_getElem? hk),(hW.own k b hk).2⟩,fun k o blk hk hb=>(hW.blk k o blk hk hb).keep (Stp.refl _ _) (fun b _ hb=>hsub b hb) (fun _ _ h=>h) fun _ _=>rfl⟩,fun b hb=>hnew b (hmem b hb),(hrep.mat hmat).mono (Stp.refl _ _) fun b _ hb=>hsub b hb⟩
theorem it_of_cvc (hm : P.follows .mixedOrders = true) {f : FuncId} {N : Nat} {ir : IR} {rs : List RV} (hc : Code1 P f N ir rs) {caps : List SV} {Hc : List Blk} {xs : List (List SV)} {ks : List Nat} (hN : caps.length + 1 <= N)
    (h : ∀ l,cvc P Hc.length ks { out:=false,l:=l,xs:=xs } ir (argE 0 (.raw (.func (.yield l) #[] #[])::caps)) Hc (some 0) fun ex e' H' g=>finK ex (resK rs e' H' fun _=>g = some xs.length \/ g = none)) : IT P f caps Hc xs:=by
  refine ⟨hc.enter,fun l w A β vs J hfin hW hr h0 hstab hyield=>?_⟩
  have hY : Yok P A β Hc.length ks { out:=false,l:=l,xs:=xs } ⟨A,fun g w A β=>J g (fun b=>some b ∈ β) A w /\ ∀ b,some b ∈ β -> A b⟩:=by
    refine ⟨fun g w A β w2 A2 β2 H2 hX hcur=>⟨hstab _ _ _ _ _ _ _ hX.1 ⟨hcur.frm.os,hcur.frm.tape,hcur.frm.output,hcur.frm.drn,hcur.frm.size,hcur.frm.keep,hcur.frm.shp,hcur.agree,hcur.fin,fun b hb=>?_,fun b hb=>?_⟩,fun b hb=>?_⟩,fun g w A β β2 hfin hs _ hX=>⟨hstab _ _ _ _ _ _ _ hX.1 ⟨rfl,rfl,rfl,Nat.le_refl _,Nat.le_refl _,fun _ _ _=>rfl,fun _ cs _ fr h=>⟨cs,fr,h,rfl⟩,fun _ _=>Iff.rfl,hfin,fun b hb=>.inl (hs b hb).1,fun b hb=>(hs b hb).2⟩,fun b hb=>(hs b hb).2⟩,fun _ _ b h=>h,fun i x us w A β hx hX hfin hown hrx=>?_,fun _ _ _ _ _ _ h=>(by cases h),fun _ _ _ _ _ _ h=>(by cases h)⟩
    . obtain ⟨k,hk⟩:=mem_name hb
      by_cases hlt : b < w.heap.size
      . exact .inl (hcur.fresh k b hk hlt)
      . exact .inr (by omega)
    . obtain ⟨k,hk⟩:=mem_name hb
      exact (hcur.rel.own k b hk).1
    . obtain ⟨k,hk⟩:=mem_name hb
      exact (hcur.rel.own k b hk).1
    . obtain ⟨fn,tmps,assign,body,h1,h2⟩:=hyield i x us (fun b=>some b ∈ β) A w hx hX.1 hfin hown hrx
      refine ⟨fn,tmps,assign,body,h1,h2.mono ?_⟩
      rintro e W' ⟨b,A',rfl,hJ,hr⟩
      exact ⟨b,A',rfl,⟨hJ,fun b hb=>(hr.agree b (hfin b (hown b hb))).2 (hown b hb)⟩,hr⟩
  have hnames : ∀ b,some b ∈ β -> A b:=fun b hb=>by obtain ⟨k,hk⟩:=mem_name hb; exact (hW.own k b hk).1
  have hr' : Reps w A β (.raw (.func (.yield l) #[] #[])::caps) (.func (.yield l) #[] #[]::vs):=⟨by simp [hr.1],fun i f v h1 h2=>by
    cases i with
    | zero=>simp at h1 h2; subst h1 h2; exact .raw _ _
    | succ i=>exact hr.2 i f v (by simpa using h1) (by simpa using h2)⟩
  refine (calls_of_cvc hm hc (by simpa using hN) (R:=fun _ _ g=>g = some xs.length \/ g = none) hY hnames (h l) hfin hW hr' ⟨h0,hnames⟩).mono ?_
  rintro e w' ⟨v,A',β',sv,H',g',rfl,hg,hcur,hrep,hX⟩
  exact ⟨v,g',_,A',rfl,hg,(hX rfl).1⟩
end
end
section
theorem bits_i64 : IntKind.i64.bits = 64:=rfl
theorem bits_u64 : IntKind.u64.bits = 64:=rfl
theorem wrap_u64 (x : Int) : IntKind.u64.wrap x = x % 18446744073709551616:=by
  simp [IntKind.wrap,IntKind.signed,bits_u64]
theorem wrap_i64 (x : Int) : IntKind.i64.wrap x = if x % 18446744073709551616 ≥ 9223372036854775808 then x % 18446744073709551616 - 18446744073709551616 else x % 18446744073709551616:=by
  simp [IntKind.wrap,IntKind.signed,bits_i64]
theorem wrap_u64_id {x : Int} (h : 0 <= x) (h' : x <= 18446744073709551615) : IntKind.u64.wrap x = x:=by rw [wrap_u64]; omega
theorem wrap_i64_id {x : Int} (h : -9223372036854775808 <= x) (h' : x <= 9223372036854775807) : IntKind.i64.wrap x = x:=by rw [wrap_i64]; split <;> omega
theorem ofInt_toNat {x : Nat} (hx : x < 18446744073709551616) : (BitVec.ofInt 64 (x : Int)).toNat = x:=by
  simp; omega
theorem bAnd_u64 {x y : Nat} (hx : x < 18446744073709551616) (hy : y < 18446744073709551616) : bAnd .u64 x y = ((x &&& y : Nat) : Int):=by
  have h : x &&& y < 2 ^ 64:=Nat.and_lt_two_pow x (by simpa using hy)
  unfold bAnd
  rw [BitVec.toNat_and]
  show IntKind.u64.wrap (((BitVec.ofInt 64 (x : Int)).toNat &&& (BitVec.ofInt 64 (y : Int)).toNat : Nat) : Int) = _
  rw [ofInt_toNat hx,ofInt_toNat hy]
  exact wrap_u64_id (by omega) (by omega)
theorem bOr_u64 {x y : Nat} (hx : x < 18446744073709551616) (hy : y < 18446744073709551616) : bOr .u64 x y = ((x ||| y : Nat) : Int):=by
  have h : x ||| y < 2 ^ 64:=Nat.or_lt_two_pow (by simpa using hx) (by simpa using hy)
  unfold bOr
  rw [BitVec.toNat_or]
  show IntKind.u64.wrap (((BitVec.ofInt 64 (x : Int)).toNat ||| (BitVec.ofInt 64 (y : Int)).toNat : Nat) : Int) = _
  rw [ofInt_toNat hx,ofInt_toNat hy]
  exact wrap_u64_id (by omega) (by omega)
theorem and_mask (x n : Nat) : x &&& (2 ^ n - 1) = x % 2 ^ n:=Nat.and_two_pow_sub_one_eq_mod x n
theorem fs_of_fo {P : Program} {f : FuncId} {args : List SV} {res res' : SV} {Hn : List Blk} (h : FO P f args res Hn) (hz : frzK 4 Hn res fun y=>y = res') : FS P f args res':=by
  refine ⟨h.1,fun w A vs hfin hlen hr=>(h.2 w A vs hfin ⟨hlen,hr⟩).mono ?_⟩
  rintro e w' ⟨v,γ,rfl,hb,hW,hnew,hrep⟩
  obtain ⟨y,rfl,hfz⟩:=frzK_sound 4 res _ hz
  exact ⟨v,rfl,hb,hfz w' _ A γ v hW.wb (fun b hb=>.inl hb) (fun k b _ hk _ _ ha=>by
    have h1:=hnew b (List.mem_of_getElem? hk)
    have h2:=hfin b ha
    omega) hrep⟩
theorem leL_reps {w : World} {A : Nat -> Prop} : ∀ (as bs : List SV),leL 0 as bs -> as.length = bs.length /\ ∀ (vs : List Value),Reps w A [] as vs -> Reps w A [] bs vs
  | [],[],_=>⟨rfl,fun _ h=>h⟩
  | [],_::_,h=>h.elim
  | _::_,[],h=>h.elim
  | a :: as, b :: bs, h => by
    obtain ⟨h1,h2⟩:=leL_reps as bs h.2
    refine ⟨by simp [h1],fun vs hr=>?_⟩
    cases vs with
    | nil=>have:=hr.1; simp at this
    | cons v vs =>
      have h3:=h2 vs ⟨by simpa using hr.1,fun i f u hf hu=>hr.2 (i + 1) f u (by simpa using hf) (by simpa using hu)⟩
      refine ⟨by simp [h3.1],fun i f u hf hu=>?_⟩
      cases i with
      | zero=>simp at hf hu; subst hf hu; exact leV_rep h.1 (hr.2 0 a v rfl rfl)
      | succ i=>exact h3.2 i f u (by simpa using hf) (by simpa using hu)
theorem fs_le {P : Program} {f : FuncId} {as bs : List SV} {res : SV} (h : FS P f bs res) (hl : leL 0 as bs) : FS P f as res :=
  ⟨h.1,fun w A vs hfin hlen hr=>by
    obtain ⟨h1,h2⟩:=leL_reps (w:=w) (A:=A) as bs hl
    have:=h2 vs ⟨hlen,hr⟩
    exact h.2 w A vs hfin this.1 this.2⟩
theorem fo_le {P : Program} {f : FuncId} {as bs : List SV} {res : SV} {Hn : List Blk} (h : FO P f bs res Hn) (hl : leL 0 as bs) : FO P f as res Hn :=
  ⟨h.1,fun w A vs hfin hr=>h.2 w A vs hfin ((leL_reps (w:=w) (A:=A) as bs hl).2 vs hr)⟩
def tab {α : Type} (n : Nat) (g : Nat -> α) : List α:=(List.range n).map g
theorem tab_len {α : Type} (n : Nat) (g : Nat -> α) : (tab n g).length = n:=by simp [tab]
theorem tab_get {α : Type} {n : Nat} (g : Nat -> α) {i : Nat} (h : i < n) : (tab n g)[i]? = some (g i):=by simp [tab,h]
theorem tab_ext {α : Type} {n : Nat} {l : List α} {g : Nat -> α} (h : l.length = n) (hg : ∀ i,i < n -> l[i]? = some (g i)) : l = tab n g:=by
  refine List.ext_getElem? fun i=>?_
  by_cases hi : i < n
  . rw [hg i hi,tab_get g hi]
  . rw [List.getElem?_eq_none (by omega),List.getElem?_eq_none (by rw [tab_len]; omega)]
theorem tab_congr {α : Type} {n : Nat} {g g' : Nat -> α} (h : ∀ i,i < n -> g i = g' i) : tab n g = tab n g' :=
  tab_ext (tab_len n g) fun i hi=>by rw [tab_get g hi,h i hi]
theorem tab_set {α : Type} {n k : Nat} (g z : Nat -> α) : (tab n fun i=>if i < k then g i else z i).set k (g k) = tab n fun i=>if i < k + 1 then g i else z i:=by
  refine tab_ext (by simp [tab]) fun i hi=>?_
  rw [List.getElem?_set,tab_len]
  by_cases e : k = i
  . subst e; simp [hi]
  . rw [if_neg e,tab_get _ hi]
    by_cases h : i < k
    . rw [if_pos h,if_pos (by omega)]
    . rw [if_neg h,if_neg (by omega)]
theorem pow_lt64 {k : Nat} (h : k < 64) : 2 ^ k < 18446744073709551616:=by
  have:=Nat.pow_lt_pow_right (a:=2) (by omega) h
  simpa using this
theorem pure_ren (sel : List Nat) : ∀ x : SV,x.pure = true -> renV sel x = x:=by
  intro x h; cases x <;> first | rfl | cases h
theorem pure_rens {m : Nat} : ∀ (xs : List SV),SV.pure.pureL xs = true -> xs.map (renV []) = xs /\ xs.all (okCap m) = true
  | [],_=>⟨rfl,rfl⟩
  | x :: xs, h => by
    simp only [SV.pure.pureL,Bool.and_eq_true] at h
    obtain ⟨h1,h2⟩:=pure_rens (m:=m) xs h.2
    refine ⟨by rw [List.map_cons,pure_ren _ x h.1,h1],?_⟩
    rw [List.all_cons,h2,Bool.and_true]
    cases x <;> first | exact h.1 | cases h.1
theorem ar_tdiv {a b : Int} {K : Int -> Prop} (ha : 0 <= a) (hb : 0 < b) (h : a <= 9223372036854775807) (hK : K (a / b)) : ∃ z',Ar .i64 (a.tdiv b) z' /\ K z':=by
  refine ⟨a / b,Or.inl ⟨?_,(Int.tdiv_eq_ediv_of_nonneg ha).symm⟩,hK⟩
  rw [Int.tdiv_eq_ediv_of_nonneg ha]
  have h1 : 0 <= a / b:=Int.ediv_nonneg ha (by omega)
  have h2 : a / b <= a:=Int.ediv_le_self b ha
  exact ⟨by omega,by omega⟩
section
variable {P : Program} {M : Nat} {ks : List Nat} {y : Yv} {e : Env} {H : List Blk} {g : Option Nat}
variable {K : Ex -> Env -> List Blk -> Option Nat -> Prop}
end
theorem Br.bne {a b : Bool} {T F : Prop} (e : a = b) (h : F) : Br (a != b) T F:=⟨fun h'=>by subst e; simp at h',fun _=>h⟩
end
section
theorem frzs_pure {f : SV -> (SV -> Prop) -> Prop} (hf : ∀ (x : SV) (K : SV -> Prop),x.pure = true -> K x -> f x K) : ∀ (xs : List SV) (K : List SV -> Prop),SV.pure.pureL xs = true -> K xs -> frzs f xs K
  | [],_,_,h=>h
  | x :: xs, K, hp, h => by
    simp only [SV.pure.pureL,Bool.and_eq_true] at hp
    exact hf x _ hp.1 (frzs_pure hf xs _ hp.2 h)
theorem frz_pure {H : List Blk} : ∀ (n : Nat) (x : SV) (K : SV -> Prop),x.pure = true -> K x -> frzK n H x K
  | 0,_,_,hp,h=>⟨hp,h⟩
  | n + 1, x, K, hp, h => by
    cases x <;> first
      | exact h
      | exact frzs_pure (frz_pure n) _ _ hp h
      | cases hp
theorem bnd_pure (n : Nat) : ∀ x : SV,x.pure = true -> x.bnd n = true
  | .ptr ..,h=>by cases h
  | .osl ..,h=>by cases h
  | .agg fs,h=>bndL_pure n fs h
  | .tup fs,h=>bndL_pure n fs h
  | .fn _ fs,h=>bndL_pure n fs h
  | .any,_ | .int ..,_ | .bool _,_ | .str _,_ | .nils,_ | .slc ..,_ | .box ..,_ | .mth ..,_ | .raw _,_ | .anyb,_=>rfl
where bndL_pure (n : Nat) : ∀ xs : List SV,SV.pure.pureL xs = true -> SV.bnd.bndL n xs = true
  | [],_=>rfl
  | x :: xs, h => by
    simp only [SV.pure.pureL,Bool.and_eq_true] at h
    simp only [SV.bnd.bndL,Bool.and_eq_true]
    exact ⟨bnd_pure n x h.1,bndL_pure n xs h.2⟩
theorem ex_but (k : Nat) {H : List Blk} {R : List Blk -> Prop} (h : leR H (H.set k .dead) /\ R (H.set k .dead)) : ∃ Hr,leR H Hr /\ R Hr:=⟨_,h⟩
theorem lens_all : (∀ (α β : Type) (f : α -> β) (l : List α),(l.map f).length = l.length) /\ (∀ (α : Type) (n : Nat) (a : α),(List.replicate n a).length = n) /\ (∀ (α : Type) (l : List α) (i : Nat) (a : α),(l.set i a).length = l.length) /\
    (∀ (α : Type) (l m : List α),(l ++ m).length = l.length + m.length) /\ (∀ (α : Type) (n : Nat) (l : List α),(l.take n).length = min n l.length) /\ (∀ (α : Type) (n : Nat) (l : List α),(l.drop n).length = l.length - n) /\
    (∀ (α : Type) (a : α) (l : List α),(a::l).length = l.length + 1) /\ ∀ (α : Type),([] : List α).length = 0 :=
  ⟨fun _ _ _ _=>List.length_map _,fun _ _ _=>List.length_replicate,fun _ _ _ _=>List.length_set,fun _ _ _=>List.length_append,fun _ _ _=>List.length_take,fun _ _ _=>List.length_drop,fun _ _ _=>List.length_cons,fun _=>List.length_nil⟩
end
section
open Go.RowKit
def hi (x : Int) : Int:=wrap64 (x / 18446744073709551616)
def lo (x : Int) : Int:=x % 18446744073709551616
def I64 (n : Int) : Prop:=-9223372036854775808 <= n /\ n <= 9223372036854775807
def U64 (n : Int) : Prop:=0 <= n /\ n <= 18446744073709551615
def W128 (x : Int) : Prop:=-170141183460469231731687303715884105728 <= x /\ x <= 170141183460469231731687303715884105727
def cy (b : Bool) : Int:=if b then 1 else 0
theorem wu (n : Int) : IntKind.u64.wrap n = n % 18446744073709551616:=by simp [IntKind.wrap,IntKind.bits,IntKind.signed]
theorem hi_bd (x : Int) : I64 (hi x):=by unfold I64 hi wrap64; omega
theorem lo_bd (x : Int) : U64 (lo x):=by unfold U64 lo; omega
theorem halves_of (a b : Int) (ha : I64 a) (hb : U64 b) : hi (a * 18446744073709551616 + b) = a /\ lo (a * 18446744073709551616 + b) = b /\ W128 (a * 18446744073709551616 + b):=by
  unfold I64 at ha; unfold U64 at hb; unfold hi lo wrap64 W128; omega
theorem eq_of_halves {x y : Int} (hx : W128 x) (hy : W128 y) (h1 : hi x = hi y) (h2 : lo x = lo y) : x = y:=by
  unfold W128 at hx hy; unfold hi wrap64 at h1; unfold lo at h2; omega
theorem of_hi (n : Int) (h : I64 n) : n / 9223372036854775808 = hi n:=by unfold I64 at h; unfold hi wrap64; omega
theorem of_lo (n : Int) : IntKind.u64.wrap n = lo n:=by rw [wu]; rfl
theorem of_hi_neg (n : Int) (h : I64 n) (h' : n < 0) : -1 = hi n:=by unfold I64 at h; unfold hi wrap64; omega
theorem of_hi_pos (n : Int) (h : I64 n) (h' : ¬ n < 0) : 0 = hi n:=by unfold I64 at h; unfold hi wrap64; omega
theorem of_wide (n : Int) (h : I64 n) : W128 n:=by unfold I64 at h; unfold W128; omega
theorem add_lo (x y : Int) : IntKind.u64.wrap (lo x + lo y) = lo (x + y):=by rw [wu]; unfold lo; omega
theorem add_hi (x y : Int) : wrap64 (IntKind.u64.wrap (IntKind.u64.wrap (IntKind.u64.wrap (hi x) + IntKind.u64.wrap (hi y)) + cy (decide (lo (x + y) < lo y)))) = hi (x + y):=by
  simp only [wu]; unfold cy hi wrap64 lo; by_cases h : (x + y) % 18446744073709551616 < y % 18446744073709551616 <;> simp [h] <;> omega
theorem sub_lo (x y : Int) : IntKind.u64.wrap (lo x - lo y) = lo (x - y):=by rw [wu]; unfold lo; omega
theorem sub_hi (x y : Int) : wrap64 (IntKind.u64.wrap (IntKind.u64.wrap (IntKind.u64.wrap (hi x) - IntKind.u64.wrap (hi y)) - cy (decide (lo x < lo y)))) = hi (x - y):=by
  simp only [wu]; unfold cy hi wrap64 lo; by_cases h : x % 18446744073709551616 < y % 18446744073709551616 <;> simp [h] <;> omega
theorem add_hi2 (x y : Int) (h : lo (x + y) < lo x) : wrap64 (wrap64 (hi x + hi y) + 1) = hi (x + y):=by unfold hi wrap64; unfold lo at h; omega
theorem add_hi3 (x y : Int) (h : ¬ lo (x + y) < lo x) : wrap64 (hi x + hi y) = hi (x + y):=by unfold hi wrap64; unfold lo at h; omega
def hl (n : Int) : Int:=n % 4294967296
def hh (n : Int) : Int:=n / 4294967296
def mag (n : Int) : Int:=if n < 0 then -n else n
theorem one_hi : hi 1 = 0:=by unfold hi wrap64; omega
theorem one_lo : lo 1 = 1:=by decide
theorem zero_hi : hi 0 = 0:=by unfold hi wrap64; omega
theorem zero_lo : lo 0 = 0:=by decide
/-! ### Shifts -/
theorem p64 (k : Nat) (hk : k <= 64) : (2 : Int) ^ k * 2 ^ (64 - k) = 18446744073709551616:=by
  rw [<- Int.pow_add,show k + (64 - k) = 64 by omega]; rfl
theorem ppos (k : Nat) : (0 : Int) < 2 ^ k:=Int.pow_pos (by decide)
theorem wrap64_congr {a b : Int} (h : a % 18446744073709551616 = b % 18446744073709551616) : wrap64 a = wrap64 b:=by unfold wrap64; omega
theorem wrap64_mod (a : Int) : wrap64 (a % 18446744073709551616) = wrap64 a:=wrap64_congr (by omega)
theorem or_nat (A B k : Nat) (_hk : k <= 64) (hA : A < 18446744073709551616) (hd : 2 ^ k ∣ A) (hB : B < 2 ^ k) : A ||| B = A + B:=by
  obtain ⟨c,rfl⟩:=hd
  exact (Nat.two_pow_add_eq_or_of_lt hB c).symm
theorem bv_or (a b : Int) (k : Nat) (hk : k <= 64) (h0 : 0 <= b) (h1 : b < 2 ^ k) : ((BitVec.ofInt 64 (a * 2 ^ k) ||| BitVec.ofInt 64 b).toNat : Int) = (a * 2 ^ k + b) % 18446744073709551616:=by
  have hq:=p64 k hk
  have hp:=ppos k
  have hpq:=ppos (64 - k)
  rw [BitVec.toNat_or,BitVec.toNat_ofInt,BitVec.toNat_ofInt]
  have e1 : (a * 2 ^ k) % ((2 ^ 64 : Nat) : Int) = (a % 2 ^ (64 - k)) * 2 ^ k:=by
    have : ((2 ^ 64 : Nat) : Int) = 2 ^ k * 2 ^ (64 - k):=by rw [hq]; rfl
    rw [this,Int.mul_comm a,Int.mul_emod_mul_of_pos _ _ hp,Int.mul_comm]
  have ha0:=Int.emod_nonneg a (Int.ne_of_gt hpq)
  have ha1:=Int.emod_lt_of_pos a hpq
  have hble : (2 : Int) ^ k <= 18446744073709551616:=by
    rw [<- hq]
    have : (1 : Int) <= 2 ^ (64 - k):=hpq
    calc (2 : Int) ^ k = 2 ^ k * 1:=by omega
      _ <= 2 ^ k * 2 ^ (64 - k):=Int.mul_le_mul_of_nonneg_left this (Int.le_of_lt hp)
  have e2 : b % ((2 ^ 64 : Nat) : Int) = b:=Int.emod_eq_of_lt h0 (by have : ((2 ^ 64 : Nat) : Int) = 18446744073709551616:=rfl; omega)
  rw [e1,e2]
  obtain ⟨A,hA⟩:=Int.eq_ofNat_of_zero_le ha0
  obtain ⟨B,rfl⟩:=Int.eq_ofNat_of_zero_le h0
  rw [hA] at ha1 ⊢
  have e3 : ((A : Int) * 2 ^ k).toNat = A * 2 ^ k:=by
    have : ((A : Int) * 2 ^ k) = ((A * 2 ^ k : Nat) : Int):=by simp
    rw [this,Int.toNat_natCast]
  have hAl : A * 2 ^ k < 18446744073709551616:=by
    have h2 : (A : Int) * 2 ^ k < 2 ^ (64 - k) * 2 ^ k:=Int.mul_lt_mul_of_pos_right ha1 hp
    rw [Int.mul_comm (2 ^ (64 - k)),hq] at h2
    have : ((A : Int) * 2 ^ k) = ((A * 2 ^ k : Nat) : Int):=by simp
    omega
  have hB : B < 2 ^ k:=by
    have : ((2 : Int) ^ k) = ((2 ^ k : Nat) : Int):=by simp
    omega
  rw [e3,Int.toNat_natCast,or_nat _ _ k hk hAl (Nat.dvd_mul_left _ _) hB]
  have e4 : (a * 2 ^ k + B) % 18446744073709551616 = ((a * 2 ^ k) % 18446744073709551616 + B) % 18446744073709551616:=by omega
  have e5 : (a * 2 ^ k) % 18446744073709551616 = (a * 2 ^ k) % ((2 ^ 64 : Nat) : Int):=rfl
  rw [e4,e5,e1,hA]
  have hsum : A * 2 ^ k + B < 18446744073709551616:=by
    have h3 : A + 1 <= 2 ^ (64 - k):=by
      have : ((2 : Int) ^ (64 - k)) = ((2 ^ (64 - k) : Nat) : Int):=by simp
      omega
    have h4 : (A + 1) * 2 ^ k <= 2 ^ (64 - k) * 2 ^ k:=Nat.mul_le_mul_right _ h3
    have h5 : 2 ^ (64 - k) * 2 ^ k = 18446744073709551616:=by rw [<- Nat.pow_add,show 64 - k + k = 64 by omega]
    have h6 : (A + 1) * 2 ^ k = A * 2 ^ k + 2 ^ k:=by rw [Nat.add_mul,Nat.one_mul]
    omega
  have e6 : (A : Int) * 2 ^ k + B = ((A * 2 ^ k + B : Nat) : Int):=by simp
  rw [e6]
  omega
theorem ofInt_mod64 (a : Int) : BitVec.ofInt 64 (a % 18446744073709551616) = BitVec.ofInt 64 a:=by
  apply BitVec.eq_of_toNat_eq
  rw [BitVec.toNat_ofInt,BitVec.toNat_ofInt]
  have : ((2 ^ 64 : Nat) : Int) = 18446744073709551616:=rfl
  rw [this]; congr 1; omega
theorem or_u64 (a b : Int) (k : Nat) (hk : k <= 64) (h0 : 0 <= b) (h1 : b < 2 ^ k) : bits BinOp.or IntKind.u64 (IntKind.u64.wrap (a * 2 ^ k)) b = (a * 2 ^ k + b) % 18446744073709551616:=by
  have : bits BinOp.or IntKind.u64 (IntKind.u64.wrap (a * 2 ^ k)) b = IntKind.u64.wrap ((BitVec.ofInt 64 (IntKind.u64.wrap (a * 2 ^ k)) ||| BitVec.ofInt 64 b).toNat : Int):=rfl
  rw [this,wu (a * 2 ^ k),ofInt_mod64,bv_or a b k hk h0 h1,wu]; omega
theorem hi_in (x : Int) (h : W128 x) : hi x = x / 18446744073709551616:=by unfold W128 at h; unfold hi wrap64; omega
theorem mag_bd (n : Int) (h : I64 n) : 0 <= mag n /\ mag n <= 9223372036854775808:=by unfold I64 at h; unfold mag; split <;> omega
theorem mul_bd (a b A B : Int) (ha : 0 <= a) (hb : 0 <= b) (hA : a <= A) (hB : b <= B) : 0 <= a * b /\ a * b <= A * B :=
  ⟨Int.mul_nonneg ha hb,Int.mul_le_mul hA hB hb (Int.le_trans ha hA)⟩
theorem hlh (n : Int) : n = hh n * 4294967296 + hl n:=by unfold hh hl; omega
theorem hl_bd (n : Int) : 0 <= hl n /\ hl n <= 4294967295:=by unfold hl; omega
theorem hh_bd (n : Int) (h : U64 n) : 0 <= hh n /\ hh n <= 4294967295:=by unfold U64 at h; unfold hh; omega
theorem mul_split (a b : Int) : a * b = hh a * hh b * 18446744073709551616 + (hh a * hl b + hl a * hh b) * 4294967296 + hl a * hl b:=by
  have h1:=hlh a
  have h2:=hlh b
  calc a * b = (hh a * 4294967296 + hl a) * (hh b * 4294967296 + hl b):=by rw [<- h1,<- h2]
    _ = _:=by simp only [Int.add_mul,Int.mul_add]; rw [show hh a * 4294967296 * (hh b * 4294967296) = hh a * hh b * 18446744073709551616 by rw [Int.mul_assoc,Int.mul_left_comm 4294967296,<- Int.mul_assoc]; rfl,show hh a * 4294967296 * hl b = hh a * hl b * 4294967296 by rw [Int.mul_assoc,Int.mul_comm 4294967296,<- Int.mul_assoc],show hl a * (hh b * 4294967296) = hl a * hh b * 4294967296 by rw [Int.mul_assoc]]; omega
theorem prod_eq (p00 p10 p01 p11 : Int) (h00 : 0 <= p00 /\ p00 <= 18446744065119617025) (h10 : 0 <= p10 /\ p10 <= 18446744065119617025) (_h01 : 0 <= p01 /\ p01 <= 18446744065119617025) (h11 : 0 <= p11 /\ p11 <= 18446744065119617025) :
    wrap64 (IntKind.u64.wrap (IntKind.u64.wrap (p11 + hh (p10 + hh p00)) + hh (p01 + hl (p10 + hh p00)))) = hi (p11 * 18446744073709551616 + (p10 + p01) * 4294967296 + p00) /\
    hl (p01 + hl (p10 + hh p00)) * 4294967296 + hl p00 = lo (p11 * 18446744073709551616 + (p10 + p01) * 4294967296 + p00):=by
  simp only [wu]; unfold hi lo wrap64 hh hl; omega
theorem or_hl (p q : Int) : bits BinOp.or IntKind.u64 (IntKind.u64.wrap (hl p * 4294967296)) (hl q) = hl p * 4294967296 + hl q := by
  have hb:=hl_bd p
  have hb2:=hl_bd q
  have := or_u64 (hl p) (hl q) 32 (by omega) hb2.1 (by have : (2 : Int) ^ 32 = 4294967296 := by decide
                                                       omega)
  have e : (2 : Int) ^ 32 = 4294967296:=by decide
  rw [e] at this
  rw [this]; omega
/-! ### The order -/
def sgn3 (a b : Int) : Int:=if a < b then -1 else if b < a then 1 else 0
def or2 (p q : Int) : Int:=if p = 0 then q else p
theorem sgn_halves (x y : Int) (hx : W128 x) (hy : W128 y) : or2 (sgn3 (hi x) (hi y)) (sgn3 (lo x) (lo y)) = sgn3 x y:=by
  rw [hi_in x hx,hi_in y hy]
  unfold or2 sgn3 lo
  by_cases h1 : x / 18446744073709551616 < y / 18446744073709551616
  . simp [h1]; omega
  . by_cases h2 : y / 18446744073709551616 < x / 18446744073709551616
    . simp [h1,h2]; rw [if_neg (by omega),if_pos (by omega)]
    . simp [h1,h2]
      by_cases h3 : x % 18446744073709551616 < y % 18446744073709551616
      . rw [if_pos h3,if_pos (by omega)]
      . rw [if_neg h3]
        by_cases h4 : y % 18446744073709551616 < x % 18446744073709551616
        . rw [if_pos h4,if_neg (by omega),if_pos (by omega)]
        . rw [if_neg h4,if_neg (by omega),if_neg (by omega)]
/-! ### The way back -/
def fits (x : Int) : Bool:=decide (-9223372036854775808 <= x /\ x <= 9223372036854775807)
def nar (x : Int) : Int:=if fits x = true then x else 0
theorem low64 (x : Int) : wrap64 (lo x) = wrap64 x:=by unfold lo; exact wrap64_mod x
theorem fits_yes (x : Int) (_hx : W128 x) (h : fits x = true) : nar x = wrap64 x /\ hi (wrap64 x) = hi x /\ lo (wrap64 x) = lo x:=by
  have e : nar x = x:=by unfold nar; simp [h]
  simp only [fits,decide_eq_true_eq] at h
  have e2 : wrap64 x = x:=by unfold wrap64; omega
  rw [e,e2]; exact ⟨rfl,rfl,rfl⟩
theorem fits_iff (x : Int) (hx : W128 x) : fits x = true ↔ (hi x = 0 /\ 0 <= wrap64 x) \/ (hi x = -1 /\ wrap64 x < 0):=by
  simp only [fits,decide_eq_true_eq]
  rw [hi_in x hx]
  unfold W128 at hx
  unfold wrap64
  omega
end
section
open Go.RowKit
def Flat (P : Program) : List Field -> List IntKind -> Nat -> Prop
  | [],[],_=>True
  | f :: fs, k :: ks, o => f.name ≠ "_" ∧ f.offset = o ∧ P.underlying f.type = some (.int k) ∧ szOf P f.type = some 1 ∧ aggOf P f.type = some false ∧ Flat P fs ks (o + 1)
  | _,_,_=>False
def kints (ks : List IntKind) (l : List Int) : List SV:=List.zipWith SV.int ks l
theorem eqFields_flat {P : Program} {w : World} {d : Nat} {A : Nat -> Prop} {β : List (Option Nat)} {xs ys : List Value} {cx cy : List SV} (hx : Reps w A β cx xs) (hy : Reps w A β cy ys) : ∀ (fs : List Field) (ks : List IntKind) (o : Nat) (as bs : List Int),Flat P fs ks o -> as.length = ks.length -> bs.length = ks.length ->
    (∀ i,i < ks.length -> cx[o + i]? = (kints ks as)[i]?) -> (∀ i,i < ks.length -> cy[o + i]? = (kints ks bs)[i]?) ->
    (Op.eqFields (d + 1) xs.toArray ys.toArray fs).run P w = .ok (decide (as = bs)) w
  | [], [], o, as, bs, _, ha, hb, _, _ => by
    obtain rfl:=List.eq_nil_of_length_eq_zero ha
    obtain rfl:=List.eq_nil_of_length_eq_zero hb
    simp [Op.eqFields]
  | [],_::_,_,_,_,h,_,_,_,_=>h.elim
  | _::_,[],_,_,_,h,_,_,_,_=>h.elim
  | f :: fs, k :: ks, o, as, bs, h, ha, hb, hcx, hcy => by
    obtain ⟨h1,h2,h3,h4,h5,h6⟩:=h
    match as,bs,ha,hb with
    | a :: as, b :: bs, ha, hb =>
      have c0:=hcx 0 (by simp)
      have d0:=hcy 0 (by simp)
      simp only [Nat.add_zero,kints,List.zipWith_cons_cons,List.getElem?_cons_zero] at c0 d0
      obtain ⟨u,p1,p2⟩:=part_field (P:=P) (w:=w) h4 h5 (o:=o) (show PartOf 1 false cx o (.int k a) from c0) hx
      obtain ⟨v,q1,q2⟩:=part_field (P:=P) (w:=w) h4 h5 (o:=o) (show PartOf 1 false cy o (.int k b) from d0) hy
      rw [rep_int p2] at p1
      rw [rep_int q2] at q1
      have ih:=eqFields_flat (P:=P) (w:=w) (d:=d) hx hy fs ks (o + 1) as bs h6 (by simpa using ha) (by simpa using hb) (fun i hi=>by
        have:=hcx (i + 1) (by simp; omega)
        simp only [kints,List.zipWith_cons_cons,List.getElem?_cons_succ] at this
        rw [show o + 1 + i = o + (i + 1) by omega]; exact this) (fun i hi=>by
        have:=hcy (i + 1) (by simp; omega)
        simp only [kints,List.zipWith_cons_cons,List.getElem?_cons_succ] at this
        rw [show o + 1 + i = o + (i + 1) by omega]; exact this)
      have he:=run_equalIn_int (P:=P) w d f.type k k a b h3
      subst h2
      simp only [Op.eqFields,if_pos h1,Sem.run_bind,p1,q1,Result.andThen_ok,he]
      by_cases hab : a = b
      . subst hab
        simp [ih]
      . simp [hab]
theorem eqok_flat {P : Program} {t : TypeId} (neg : Bool) {fields : Array Field} (ht : P.underlying t = some (.struct fields)) (hp : P.stoodInHeld t = false) (hm : P.eqGuardType P.depth t = false) {ks : List IntKind} (hf : Flat P fields.toList ks 0) {la lb : List Int} (ha : la.length = ks.length) (hb : lb.length = ks.length) :
    EqOk P neg t (kints ks la) (kints ks lb) (match neg with | true=>decide (la ≠ lb) | false=>decide (la = lb)):=by
  intro w A β x y p q hx hy
  have ht' : P.underlying t = some (.struct (P.fieldsOf t)):=by
    simp [Program.fieldsOf,ht]
  have hfo : P.fieldsOf t = fields:=by simp [Program.fieldsOf,ht]
  cases hx with
  | agg _ _ xs hlx hxs =>
    cases hy with
    | agg _ _ ys hly hys =>
      have hl : ∀ (l : List Int),l.length = ks.length -> ∀ i,i < ks.length -> (kints ks l)[0 + i]? = (kints ks l)[i]?:=fun l _ i _=>by rw [Nat.zero_add]
      have h:=eqFields_flat (P:=P) (w:=w) (d:=9998) (A:=A) (β:=β) (xs:=xs) (ys:=ys) ⟨hlx,hxs⟩ ⟨hly,hys⟩ fields.toList ks 0 la lb hf ha hb (hl la ha) (hl lb hb)
      have hin:=run_equalIn_agg (P:=P) w 9999 t xs.toArray ys.toArray ht' hp
      rw [hfo,h] at hin
      cases neg with
      | false =>
        have hg:=run_eqGuard_agg (P:=P) w .eql t p q xs.toArray ys.toArray hm
        have hb:=run_eql_struct (P:=P) w t xs.toArray ys.toArray
        simp only [Bool.false_eq_true,if_false,Sem.run_bind,hg,Result.andThen_ok,hb,hin]
      | true =>
        have hg:=run_eqGuard_agg (P:=P) w .neq t p q xs.toArray ys.toArray hm
        have hb:=run_neq_struct (P:=P) w t xs.toArray ys.toArray
        simp only [if_true,Sem.run_bind,hg,Result.andThen_ok,hb,hin,decide_not]
end
section
open Go.RowKit
def Opened (P : Program) (w : World) : Nat → TypeId → List Value → Prop
  | 0,_,_=>False
  | n + 1, t, cs =>
    match P.underlying t with
    | some .bool=>∃ b,cs = [.bool b]
    | some (.int k)=>∃ x,cs = [.int k x] /\ (Lit.int k x).wf = true
    | some .string=>∃ s,cs = [.string s] /\ s.size <= maxLen
    | some (.slice e)=>cs = [.slice none 0 0] \/ ∃ a len cap,cs = [.slice (some a) len cap] /\ len <= cap /\ cap <= maxLen /\
        ∀ i,i < cap -> ∃ xs,w.cells? 0 (a.add (i * P.cellsOf e)) (P.cellsOf e) = some xs /\ Opened P w n e xs
    | some (.struct fs)=>cs.length = P.cellsOf t /\ ∀ f ∈ fs.toList,Opened P w n f.type ((cs.drop f.offset).take (P.cellsOf f.type))
    | some (.array m e)=>cs.length = P.cellsOf t /\ ∀ i,i < m -> Opened P w n e ((cs.drop (i * P.cellsOf e)).take (P.cellsOf e))
    | _=>True
theorem opened_mapM {α β : Type} {f : α -> Option β} : ∀ {l : List α} {ys : List β},l.mapM f = some ys -> ∀ a ∈ l,∃ y,f a = some y
  | [],_,_,a,h=>by cases h
  | b :: l, ys, h, a, ha => by
    simp only [List.mapM_cons,Option.bind_eq_bind,Option.bind_eq_some_iff,Option.pure_def] at h
    obtain ⟨y,hy,zs,hz,_⟩:=h
    rcases List.mem_cons.1 ha with rfl | ha
    . exact ⟨y,hy⟩
    . exact opened_mapM hz a ha
theorem opened_of_trod {H : Type} {enc : TypeId × Value -> H} {P : Program} {w : World} {held : Bool} : ∀ (n : Nat) (t : TypeId) (cs : List Value) (x : DataW H × List MemPlace),
    DataW.trod enc P w 0 (fun _=>true) held n t cs = some x -> Opened P w n t cs
  | 0,t,cs,x,h=>by simp [DataW.trod] at h
  | n + 1, t, cs, x, h => by
    unfold DataW.trod at h
    unfold Opened
    cases hu : P.underlying t with
    | none=>trivial
    | some d =>
      rw [hu] at h
      cases d with
      | bool => 
        simp only at h ⊢
        split at h <;> simp_all
      | int k =>
        simp only at h ⊢
        split at h <;> simp_all
      | string =>
        simp only at h ⊢
        split at h <;> simp_all
      | slice e =>
        simp only at h ⊢
        split at h
        all_goals try (simp_all; done)
        rename_i e' a len cap heq
        obtain rfl:=TypeDesc.slice.inj (Option.some.inj heq)
        right
        split at h
        . rename_i hc
          refine ⟨_,_,_,rfl,hc.2.1,hc.2.2,fun i hi=>?_⟩
          simp only [Option.bind_eq_some_iff,Option.map_eq_some_iff,if_true] at h
          obtain ⟨es,he,rs,hr,_⟩:=h
          by_cases hil : i < len
          . obtain ⟨y,hy⟩:=opened_mapM he i (List.mem_range.2 hil)
            obtain ⟨xs,hx,hy⟩:=Option.bind_eq_some_iff.1 hy
            exact ⟨xs,hx,opened_of_trod n _ _ _ hy⟩
          . obtain ⟨y,hy⟩:=opened_mapM hr (i - len) (List.mem_range.2 (by omega))
            obtain ⟨xs,hx,hy⟩:=Option.bind_eq_some_iff.1 hy
            rw [show len + (i - len) = i by omega] at hx
            exact ⟨xs,hx,opened_of_trod n _ _ _ hy⟩
        . cases h
      | struct fs =>
        simp only at h ⊢
        split at h
        . rename_i hl
          simp only [Option.map_eq_some_iff] at h
          obtain ⟨ys,hy,_⟩:=h
          refine ⟨hl,fun f hf=>?_⟩
          obtain ⟨y,hy⟩:=opened_mapM hy f hf
          exact opened_of_trod n _ _ _ hy
        . cases h
      | array m e =>
        simp only at h ⊢
        split at h
        . rename_i hl
          simp only [Option.map_eq_some_iff] at h
          obtain ⟨ys,hy,_⟩:=h
          refine ⟨hl,fun i hi=>?_⟩
          obtain ⟨y,hy⟩:=opened_mapM hy i (List.mem_range.2 hi)
          exact opened_of_trod n _ _ _ hy
        . cases h
      | _=>trivial
theorem opened_val {H : Type} {enc : TypeId × Value -> H} {P : Program} {w : World} {held : Bool} {t : TypeId} {v : Value} {d : DataW H} {p : List MemPlace}
    (h : DataW.Trod enc P w 0 (fun _=>true) held t v d p) : ∃ n,Opened P w n t v.cells.toList:=by
  obtain ⟨n,hn⟩:=h
  exact ⟨n,opened_of_trod n _ _ _ hn⟩
theorem cells_agg {cs : Array Value} {l : List Value} (h : (Value.agg cs).cells.toList = l) : Value.agg cs = .agg l.toArray:=by
  have : cs.toList = l:=h
  rw [<- this]
theorem i64_of_wf {x : Int} (h : (Lit.int .i64 x).wf = true) : -9223372036854775808 <= x /\ x <= 9223372036854775807:=by
  simp [Lit.wf,IntKind.min,IntKind.max,IntKind.signed,IntKind.bits] at h; omega
theorem u64_of_wf {x : Int} (h : (Lit.int .u64 x).wf = true) : 0 <= x /\ x <= 18446744073709551615:=by
  simp [Lit.wf,IntKind.min,IntKind.max,IntKind.signed,IntKind.bits] at h; omega
theorem u8_of_wf {x : Int} (h : (Lit.int .u8 x).wf = true) : 0 <= x /\ x <= 255:=by
  simp [Lit.wf,IntKind.min,IntKind.max,IntKind.signed,IntKind.bits] at h; omega
theorem opened_int {P : Program} {w : World} {n : Nat} {t : TypeId} {k : IntKind} {cs : List Value} (hu : P.underlying t = some (.int k)) (h : Opened P w n t cs) : ∃ x,cs = [.int k x] /\ (Lit.int k x).wf = true:=by
  cases n with
  | zero=>exact h.elim
  | succ n=>unfold Opened at h; rw [hu] at h; exact h
theorem opened_bool {P : Program} {w : World} {n : Nat} {t : TypeId} {cs : List Value} (hu : P.underlying t = some .bool) (h : Opened P w n t cs) : ∃ b,cs = [.bool b]:=by
  cases n with
  | zero=>exact h.elim
  | succ n=>unfold Opened at h; rw [hu] at h; exact h
theorem opened_struct {P : Program} {w : World} {n : Nat} {t : TypeId} {fs : Array Field} {cs : List Value} (hu : P.underlying t = some (.struct fs)) (h : Opened P w n t cs) :
    cs.length = P.cellsOf t /\ ∃ m,∀ f ∈ fs.toList,Opened P w m f.type ((cs.drop f.offset).take (P.cellsOf f.type)):=by
  cases n with
  | zero=>exact h.elim
  | succ n=>unfold Opened at h; rw [hu] at h; exact ⟨h.1,n,h.2⟩
theorem opened_array {P : Program} {w : World} {n : Nat} {t : TypeId} {m : Nat} {e : TypeId} {cs : List Value} (hu : P.underlying t = some (.array m e)) (h : Opened P w n t cs) :
    cs.length = P.cellsOf t /\ ∃ k,∀ i,i < m -> Opened P w k e ((cs.drop (i * P.cellsOf e)).take (P.cellsOf e)):=by
  cases n with
  | zero=>exact h.elim
  | succ n=>unfold Opened at h; rw [hu] at h; exact ⟨h.1,n,h.2⟩
theorem opened_slice {P : Program} {w : World} {n : Nat} {t : TypeId} {e : TypeId} {cs : List Value} (hu : P.underlying t = some (.slice e)) (h : Opened P w n t cs) :
    cs = [.slice none 0 0] \/ ∃ a len cap,cs = [.slice (some a) len cap] /\ len <= cap /\ cap <= maxLen /\ ∃ m,∀ i,i < cap -> ∃ xs,w.cells? 0 (a.add (i * P.cellsOf e)) (P.cellsOf e) = some xs /\ Opened P w m e xs:=by
  cases n with
  | zero=>exact h.elim
  | succ n =>
    unfold Opened at h
    rw [hu] at h
    rcases h with h | ⟨a,len,cap,h1,h2,h3,h4⟩
    . exact .inl h
    . exact .inr ⟨a,len,cap,h1,h2,h3,n,h4⟩
end
section
open Go.RowKit
def nob : Nat -> Prop:=fun _=>False
theorem cell_heap {w : World} {a : Addr} {x : Value} (h : w.cell? a = some x) : a.spot = none /\ ∃ (cs : Array Value) (T : TypeId) (fr : Nat × Nat),w.heap[a.block]? = some (.cells cs T fr) /\ cs[a.off]? = some x:=by
  unfold World.cell? at h
  split at h
  . rename_i c t fr hb
    split at h
    . cases h
    . rename_i hs
      refine ⟨?_,c,t,fr,hb,h⟩
      cases hh : a.spot with
      | none=>rfl
      | some _=>simp [hh] at hs
  . cases h
theorem add_eq {a : Addr} (h : a.spot = none) (n : Nat) : a.add n = ⟨a.block,a.off + n,none⟩:=by
  obtain ⟨b,o,s⟩:=a
  simp at h; subst h
  unfold Addr.add
  split <;> simp_all
theorem mapM_at {α β : Type} {f : α -> Option β} : ∀ {l : List α} {ys : List β},l.mapM f = some ys -> ∀ i,i < l.length -> (l[i]?).bind f = ys[i]?
  | [],ys,h,i,hi=>by simp at hi
  | b :: l, ys, h, i, hi => by
    simp only [List.mapM_cons,Option.bind_eq_bind,Option.bind_eq_some_iff,Option.pure_def] at h
    obtain ⟨y,hy,zs,hz,h⟩:=h
    cases h
    cases i with
    | zero=>simpa using hy
    | succ i=>simpa using mapM_at hz i (by simpa using hi)
theorem rep_slice1 {P : Program} {w : World} {t e : TypeId} {vs : List Value} {n c : Nat} {α : Type} (g : α -> List SV) (ok : α -> Prop) (hc : 0 < c) (hcell : P.cellsOf e = c) (ht : P.underlying t = some (.slice e)) (ho : Opened P w n t vs)
    (elem : ∀ (m : Nat) (xs : List Value),Opened P w m e xs -> ∃ x,ok x /\ (g x).length = c /\ Reps w nob [] (g x) xs) :
    ∃ (l : List α) (v : Value),vs = [v] /\ (∃ a n k,v = .slice a n k) /\ (∀ x ∈ l,ok x) /\ l.length <= maxLen /\ Rep w nob [] (.slc c (l.map g)) v:=by
  rcases opened_slice ht ho with h | ⟨a,len,cap,h,h1,h2,m,h3⟩
  . exact ⟨[],_,h,⟨_,_,_,rfl⟩,by simp,Nat.zero_le _,.slcZ _ _ _⟩
  . rw [hcell] at h3
    rcases Nat.eq_zero_or_pos cap with h0 | h0
    . subst h0
      obtain rfl : len = 0:=by omega
      exact ⟨[],_,h,⟨_,_,_,rfl⟩,by simp,Nat.zero_le _,.slcZ _ _ _⟩
    -- each element
    have hx : ∀ i,∃ y : α × List Value,i < cap -> w.cells? 0 (a.add (i * c)) c = some y.2 /\ ok y.1 /\ (g y.1).length = c /\ Reps w nob [] (g y.1) y.2:=fun i=>by
      by_cases hi : i < cap
      . obtain ⟨xs,hxs,hop⟩:=h3 i hi
        obtain ⟨x,k1,k2,k3⟩:=elem m xs hop
        exact ⟨(x,xs),fun _=>⟨hxs,k1,k2,k3⟩⟩
      . obtain ⟨xs,_,hop⟩:=h3 0 h0
        obtain ⟨x,_⟩:=elem m xs hop
        exact ⟨(x,xs),fun h=>absurd h hi⟩
    obtain ⟨f,hf⟩ : ∃ f : Nat -> α × List Value,∀ i,i < cap -> w.cells? 0 (a.add (i * c)) c = some (f i).2 /\ ok (f i).1 /\ (g (f i).1).length = c /\ Reps w nob [] (g (f i).1) (f i).2 :=
      ⟨fun i=>Classical.choose (hx i),fun i=>Classical.choose_spec (hx i)⟩
    -- each cell
    have hcl : ∀ i j,i < cap -> j < c -> (∃ y,(f i).2[j]? = some y /\ w.cell? ((a.add (i * c)).add j) = some y):=fun i j hi hj=>by
      obtain ⟨k1,_,k3,k4⟩:=hf i hi
      have hl : (f i).2.length = c:=by rw [k4.1,k3]
      unfold World.cells? at k1
      rw [if_pos (Nat.zero_le _)] at k1
      have hm:=mapM_at k1 j (by simpa using hj)
      rw [List.getElem?_range hj] at hm
      simp only [Option.bind_some] at hm
      exact ⟨(f i).2[j]'(by omega),by simp [hl,hj],by rw [hm]; simp [hl,hj]⟩
    obtain ⟨y0,_,hy0⟩:=hcl 0 0 h0 hc
    have ha : a.spot = none:=by
      have:=(cell_heap hy0).1
      simpa [Addr.add] using this
    obtain ⟨cs,T,fr,hb,_⟩:=(cell_heap hy0).2
    have hb' : w.heap[a.block]? = some (.cells cs T fr):=by simpa [Addr.add] using hb
    have hcs : ∀ i j,i < cap -> j < c -> ∃ y,(f i).2[j]? = some y /\ cs[a.off + i * c + j]? = some y:=fun i j hi hj=>by
      obtain ⟨y,k1,k2⟩:=hcl i j hi hj
      rw [add_eq ha,add_eq rfl] at k2
      obtain ⟨_,cs',T',fr',hb2,hc2⟩:=cell_heap k2
      simp only at hb2 hc2
      rw [hb'] at hb2
      cases hb2
      exact ⟨y,k1,hc2⟩
    refine ⟨(List.range len).map fun i=>(f i).1,_,h,⟨_,_,_,rfl⟩,fun x hx=>?_,by simp; omega,?_⟩
    . obtain ⟨i,hi,rfl⟩:=List.mem_map.1 hx
      exact (hf i (by have:=List.mem_range.1 hi; omega)).2.1
    . obtain ⟨blk,off,sp⟩:=a
      simp at ha; subst ha
      have hget : ∀ (i : Nat) (x : List SV),(((List.range len).map fun i=>(f i).1).map g)[i]? = some x -> i < len /\ x = g (f i).1:=fun i x hx=>by
        have hi : i < len:=by have:=(List.getElem?_eq_some_iff.1 hx).1; simpa using this
        simp [hi] at hx
        exact ⟨hi,hx.symm⟩
      have:=Rep.slc (w:=w) (A:=nob) [] c (((List.range len).map fun i=>(f i).1).map g) blk off cap (fun k=>(cs[k]?).getD undef) ⟨⟨cs,T,fr,hb',fun i x j hx hj=>?_⟩,fun h=>h,fun i x hx=>?_⟩ (by simpa using h1) fun i x j cc hx hcc=>?_
      . simpa using this
      . obtain ⟨hi,rfl⟩:=hget i x hx
        obtain ⟨y,_,k2⟩:=hcs i j (by omega) hj
        simp only at k2
        simp [k2]
      . obtain ⟨hi,rfl⟩:=hget i x hx
        exact (hf i (by omega)).2.2.1
      . obtain ⟨hi,rfl⟩:=hget i x hx
        have hj : j < c:=by rw [<- (hf i (by omega)).2.2.1]; exact (List.getElem?_eq_some_iff.1 hcc).1
        obtain ⟨y,k1,k2⟩:=hcs i j (by omega) hj
        simp only at k2
        rw [k2]
        exact (hf i (by omega)).2.2.2.2 j cc y hcc k1
end
end Go.Proofs.YtelbhbadkbcakaaGreat
