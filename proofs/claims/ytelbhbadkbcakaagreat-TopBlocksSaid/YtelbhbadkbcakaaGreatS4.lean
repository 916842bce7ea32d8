/- What is shown of code is what it does: regions that draw their order. What is shown of code is what it does: a region that draws its order, whole. What is shown of code is what it does: the region that draws its order, at its place. What tells less. A region that draws its order, where some operations may come late: between those that are in order. What is shown of code is what it does: a region that draws its order and has late operations. -/
import Derived.Test.YtelbhbadkbcakaaGreatS3
namespace Go.Proofs.YtelbhbadkbcakaaGreat
section
open Go.RowKit
section
variable {P : Program} {w : World} {A : Nat -> Prop} {β : List (Option Nat)} {H : List Blk} {Hall : List Blk}
abbrev Gn:=List (Option Nat) × List Nat
abbrev GS:=World × Gn
def Blk.unsh : Blk -> Blk
  | .shut wd xs=>.arr wd xs
  | b=>b
theorem BlkRel.sealed {w : World} {A : Nat -> Prop} {β : List (Option Nat)} {o : Option Nat} : ∀ {blk : Blk},BlkRel w A β o blk.unsh -> BlkRel w A β o blk
  | .shut _ _,_=>by cases o <;> trivial
  | .dead,h=>h
  | .vars _,h=>h
  | .arr _ _,h=>h
def AS (A : Nat -> Prop) (s : GS) : Nat -> Prop:=fun b=>A b \/ some b ∈ s.2.1
def RF (A : Nat -> Prop) (β : List (Option Nat)) (sv : SV) : Fact Gn:=fun v s=>Rep s.1 (AS A s) (β ++ s.2.1) sv v
structure Okk (w : World) (A : Nat -> Prop) (β : List (Option Nat)) (Hall : List Blk) (Qall : List Nat) (s : GS) : Prop where
  fin : ∀ b,AS A s b -> b < s.1.heap.size
  inj : ∀ (k k' b : Nat),s.2.1[k]? = some (some b) -> s.2.1[k']? = some (some b) -> k ∉ s.2.2 -> k' ∉ s.2.2 -> k = k'
  new : ∀ b,some b ∈ s.2.1 -> w.heap.size <= b
  len : s.2.1.length = Hall.length
  blk : ∀ (k b : Nat) (blk : Blk),s.2.1[k]? = some (some b) -> Hall[k]? = some blk -> k ∉ s.2.2 -> BlkRel s.1 (AS A s) (β ++ s.2.1) (some b) blk.unsh
  eat : ∀ k,k ∈ s.2.2 -> β.length + k ∈ Qall /\ ∃ wd xs,Hall[k]? = some (.shut wd xs)
structure RS (w : World) (A : Nat -> Prop) (β : List (Option Nat)) (Hall : List Blk) (Qall : List Nat) (s s' : GS) : Prop where
  below : Belo w.heap.size s.1 s'.1
  stp : Stp (AS A s) s.1 s'.1
  mono : ∀ (k b : Nat),s.2.1[k]? = some (some b) -> s'.2.1[k]? = some (some b)
  fresh : ∀ b,some b ∈ s'.2.1 -> some b ∈ s.2.1 \/ s.1.heap.size <= b
  okk : Okk w A β Hall Qall s -> Okk w A β Hall Qall s'
variable {Qall : List Nat}
theorem RS.refl (s : GS) : RS w A β Hall Qall s s:=⟨Belo.refl _ _,Stp.refl _ _,fun _ _ h=>h,fun _ h=>.inl h,fun h=>h⟩
theorem RS.away {s s' : GS} (h : RS w A β Hall Qall s s') : ∀ b,b < s.1.heap.size -> AS A s' b -> AS A s b:=fun b hb ha=>by
  rcases ha with ha | ha
  . exact .inl ha
  . rcases h.fresh b ha with h1 | h1
    . exact .inr h1
    . omega
theorem RS.trans (a b c : GS) (h : RS w A β Hall Qall a b) (k : RS w A β Hall Qall b c) : RS w A β Hall Qall a c :=
  ⟨h.below.trans k.below,h.stp.trans k.stp h.away,fun i x hx=>k.mono i x (h.mono i x hx),fun x hx=>by
    rcases k.fresh x hx with h1 | h1
    . exact h.fresh x h1
    . exact .inr (Nat.le_trans h.below.size h1),fun ho=>k.okk (h.okk ho)⟩
theorem join_get {s s' : GS} (hm : ∀ (k b : Nat),s.2.1[k]? = some (some b) -> s'.2.1[k]? = some (some b)) : ∀ (k b : Nat),(β ++ s.2.1)[k]? = some (some b) -> (β ++ s'.2.1)[k]? = some (some b):=fun k b hk=>by
  by_cases hl : k < β.length
  . rw [List.getElem?_append_left hl] at hk ⊢; exact hk
  . rw [List.getElem?_append_right (by omega)] at hk ⊢; exact hm _ _ hk
theorem rep_step {s s' : GS} {sv : SV} {v : Value} (h : RS w A β Hall Qall s s') (hr : RF A β sv v s) : RF A β sv v s':=(Rep.mono h.stp h.away hr).more _ (join_get h.mono)
theorem wb_at {s : GS} (hWR : WRel w A β H) (hb : Belo w.heap.size w s.1) (ho : Okk w A β Hall Qall s) (Hp : List Blk) (hpre : Hp <+: Hall) : WB s.1 (AS A s) (β ++ s.2.1) (H ++ Hp):=by
  refine ⟨fun k o blk hk hbk=>?_⟩
  by_cases hl : k < β.length
  . rw [List.getElem?_append_left hl] at hk
    rw [List.getElem?_append_left (by rw [<- hWR.len]; exact hl)] at hbk
    refine (hWR.blk k o blk hk hbk).keep (Stp.below hb) (fun b hb' ha=>?_) (fun k' b' hk'=>?_) (fun b e=>?_)
    . rcases ha with ha | ha
      . exact ha
      . have:=ho.new b ha; omega
    . rw [List.getElem?_append_left (List.getElem?_eq_some_iff.1 hk').1]; exact hk'
    . subst e; exact hb.block b (hWR.own k b hk).2
  . rw [List.getElem?_append_right (by omega)] at hk
    rw [List.getElem?_append_right (by rw [<- hWR.len]; omega),<- hWR.len] at hbk
    cases o with
    | none=>trivial
    | some b =>
      have hHall : Hall[k - β.length]? = some blk:=by
        obtain ⟨t,rfl⟩:=hpre
        rw [List.getElem?_append_left (List.getElem?_eq_some_iff.1 hbk).1]; exact hbk
      by_cases he : k - β.length ∈ s.2.2
      . obtain ⟨_,wd,xs,h2⟩:=ho.eat _ he
        rw [hHall] at h2
        cases h2
        trivial
      . exact (ho.blk _ b blk hk hHall he).sealed
theorem RS.make {s : GS} {w' : World} {γ : List (Option Nat)} {Hn : List Blk} {p : Nat} (hw : w.heap.size <= s.1.heap.size) (hb : Belo s.1.heap.size s.1 w') (hlen : p + γ.length <= s.2.1.length) (hun : ∀ k,k < γ.length -> s.2.1[p + k]? = some none)
    (hnew : ∀ b,some b ∈ γ -> s.1.heap.size <= b /\ b < w'.heap.size) (hinj : ∀ (k k' b : Nat),γ[k]? = some (some b) -> γ[k']? = some (some b) -> k = k')
    (hH : ∀ k,k < γ.length -> Hall[p + k]? = Hn[k]?) (hblk : Okk w A β Hall Qall s -> ∀ (k b : Nat) (blk : Blk),γ[k]? = some (some b) -> Hn[k]? = some blk -> BlkRel w' (AS A (w',(s.2.1.take p ++ (γ ++ s.2.1.drop (p + γ.length)),s.2.2))) (β ++ (s.2.1.take p ++ (γ ++ s.2.1.drop (p + γ.length)))) (some b) blk.unsh) :
    RS w A β Hall Qall s (w',(s.2.1.take p ++ (γ ++ s.2.1.drop (p + γ.length)),s.2.2)):=by
  have htl : (s.2.1.take p).length = p:=by simp; omega
  -- which names are which
  have g1 : ∀ k,k < p -> (s.2.1.take p ++ (γ ++ s.2.1.drop (p + γ.length)))[k]? = s.2.1[k]?:=fun k hk=>by
    rw [List.getElem?_append_left (by omega),List.getElem?_take_of_lt hk]
  have g2 : ∀ k,k < γ.length -> (s.2.1.take p ++ (γ ++ s.2.1.drop (p + γ.length)))[p + k]? = γ[k]?:=fun k hk=>by
    rw [List.getElem?_append_right (by omega),htl,Nat.add_sub_cancel_left,List.getElem?_append_left hk]
  have g3 : ∀ k,p + γ.length <= k -> (s.2.1.take p ++ (γ ++ s.2.1.drop (p + γ.length)))[k]? = s.2.1[k]?:=fun k hk=>by
    rw [List.getElem?_append_right (by omega),htl,List.getElem?_append_right (by omega),List.getElem?_drop]
    congr 1; omega
  have cases3 : ∀ k,k < p \/ (∃ q,q < γ.length /\ k = p + q) \/ p + γ.length <= k:=fun k=>by
    by_cases h1 : k < p
    . exact .inl h1
    . by_cases h2 : p + γ.length <= k
      . exact .inr (.inr h2)
      . exact .inr (.inl ⟨k - p,by omega,by omega⟩)
  have hmono : ∀ (k b : Nat),s.2.1[k]? = some (some b) -> (s.2.1.take p ++ (γ ++ s.2.1.drop (p + γ.length)))[k]? = some (some b):=fun k b hk=>by
    rcases cases3 k with h | ⟨q,h,rfl⟩ | h
    . rw [g1 k h]; exact hk
    . rw [hun q h] at hk; cases hk
    . rw [g3 k h]; exact hk
  have hfresh : ∀ b,some b ∈ s.2.1.take p ++ (γ ++ s.2.1.drop (p + γ.length)) -> some b ∈ s.2.1 \/ some b ∈ γ:=fun b hm=>by
    simp only [List.mem_append] at hm
    rcases hm with h | h | h
    . exact .inl (List.mem_of_mem_take h)
    . exact .inr h
    . exact .inl (List.mem_of_mem_drop h)
  refine ⟨hb.mono hw,Stp.below hb,hmono,fun b hm=>(hfresh b hm).imp id fun h=>(hnew b h).1,fun ho=>?_⟩
  have hlt : ∀ b,some b ∈ s.2.1 -> b < s.1.heap.size:=fun b hm=>ho.fin b (.inr hm)
  refine ⟨fun b ha=>?_,fun k k' b hk hk' he he'=>?_,fun b hm=>?_,by simp [htl,<- ho.len]; omega,fun k b blk hk hbk he=>?_,ho.eat⟩
  . rcases ha with ha | ha
    . exact Nat.lt_of_lt_of_le (ho.fin b (.inl ha)) hb.size
    . rcases hfresh b ha with h | h
      . exact Nat.lt_of_lt_of_le (hlt b h) hb.size
      . exact (hnew b h).2
  · -- a name's block tells the name
    have side : ∀ k,(s.2.1.take p ++ (γ ++ s.2.1.drop (p + γ.length)))[k]? = some (some b) -> (s.2.1[k]? = some (some b) /\ b < s.1.heap.size) \/ (∃ q,k = p + q /\ γ[q]? = some (some b) /\ s.1.heap.size <= b):=fun k hk=>by
      rcases cases3 k with h | ⟨q,h,rfl⟩ | h
      . rw [g1 k h] at hk; exact .inl ⟨hk,hlt b (List.mem_of_getElem? hk)⟩
      . rw [g2 q h] at hk; exact .inr ⟨q,rfl,hk,(hnew b (List.mem_of_getElem? hk)).1⟩
      . rw [g3 k h] at hk; exact .inl ⟨hk,hlt b (List.mem_of_getElem? hk)⟩
    rcases side k hk with ⟨h1,h2⟩ | ⟨q,rfl,h1,h2⟩ <;> rcases side k' hk' with ⟨h3,h4⟩ | ⟨q',rfl,h3,h4⟩
    . exact ho.inj k k' b h1 h3 he he'
    . omega
    . omega
    . rw [hinj q q' b h1 h3]
  . rcases hfresh b hm with h | h
    . exact ho.new b h
    . exact Nat.le_trans hw (hnew b h).1
  . rcases cases3 k with h | ⟨q,h,rfl⟩ | h
    . rw [g1 k h] at hk
      refine (ho.blk k b blk hk hbk he).keep (Stp.below hb) (fun c hc ha=>?_) (join_get hmono) (fun c e=>hb.block c (by cases e; exact hlt b (List.mem_of_getElem? hk)))
      rcases ha with ha | ha
      . exact .inl ha
      . rcases hfresh c ha with h' | h'
        . exact .inr h'
        . have:=(hnew c h').1; omega
    . rw [g2 q h] at hk
      rw [hH q h] at hbk
      exact hblk ho q b blk hk hbk
    . rw [g3 k h] at hk
      refine (ho.blk k b blk hk hbk he).keep (Stp.below hb) (fun c hc ha=>?_) (join_get hmono) (fun c e=>hb.block c (by cases e; exact hlt b (List.mem_of_getElem? hk)))
      rcases ha with ha | ha
      . exact .inl ha
      . rcases hfresh c ha with h' | h'
        . exact .inr h'
        . have:=(hnew c h').1; omega
theorem RS.turn {s : GS} {w' : World} {o : Option Nat} {wd : Nat} {ys : List (List SV)} {k p : Nat} (hw : w.heap.size <= s.1.heap.size) (hf : Frm [(s.2.1[k]?).join] s.1 w') (ho : ∀ b,o = some b -> b < w'.heap.size /\ (b < s.1.heap.size -> s.2.1[k]? = some (some b)))
    (hb : ∀ (A2 : Nat -> Prop) (γ : List (Option Nat)),BlkRel w' A2 γ o (.arr wd ys)) (hp : s.2.1[p]? = some none) (hHp : Hall[p]? = some (.arr wd ys)) (hHk : ∃ wd' xs,Hall[k]? = some (.shut wd' xs)) (hQ : β.length + k ∈ Qall) (hke : k ∉ s.2.2) (hnew : ∀ b,some b ∈ s.2.1 -> w.heap.size <= b) :
    RS w A β Hall Qall s (w',(s.2.1.set p o,k::s.2.2)):=by
  have hjoin : ∀ b,(s.2.1[k]?).join = some b -> s.2.1[k]? = some (some b):=fun b hb=>by
    cases hq : s.2.1[k]? with
    | none=>simp [hq] at hb
    | some o=>simp [hq] at hb; rw [hb]
  have hone : ∀ b,some b ∈ [(s.2.1[k]?).join] -> some b ∈ s.2.1 /\ s.2.1[k]? = some (some b):=fun b hm=>by
    have:=hjoin b (List.mem_singleton.1 hm).symm
    exact ⟨List.mem_of_getElem? this,this⟩
  have hpl : p < s.2.1.length:=(List.getElem?_eq_some_iff.1 hp).1
  have hmono : ∀ (j b : Nat),s.2.1[j]? = some (some b) -> (s.2.1.set p o)[j]? = some (some b):=fun j b hj=>by
    by_cases e : p = j
    . subst e; rw [hp] at hj; cases hj
    . rw [List.getElem?_set_ne e]; exact hj
  have hget : ∀ (j b : Nat),(s.2.1.set p o)[j]? = some (some b) -> (j = p /\ o = some b) \/ s.2.1[j]? = some (some b):=fun j b hj=>by
    by_cases e : p = j
    . subst e; rw [List.getElem?_set_self hpl] at hj; exact .inl ⟨rfl,Option.some.inj hj⟩
    . rw [List.getElem?_set_ne e] at hj; exact .inr hj
  have hmem : ∀ b,some b ∈ s.2.1.set p o -> o = some b \/ some b ∈ s.2.1:=fun b hm=>by
    obtain ⟨j,hj,he⟩:=List.getElem_of_mem hm
    rcases hget j b (by simp only [List.getElem?_eq_getElem hj,he]) with h | h
    . exact .inl h.2
    . exact .inr (List.mem_of_getElem? h)
  have hold : ∀ b,o = some b -> b < s.1.heap.size -> some b ∈ s.2.1:=fun b hb hlt=>List.mem_of_getElem? ((ho b hb).2 hlt)
  have hbel : Belo w.heap.size s.1 w':=⟨hf.os,hf.tape,hf.output,hf.drn,hf.size,fun b hlt=>hf.keep b (by omega) fun hm=>by
    have:=hnew b (hone b hm).1
    omega⟩
  have hstp : Stp (AS A s) s.1 w':=⟨hf.os,hf.tape,hf.output,hf.drn,hf.size,fun b hlt hn=>hf.keep b hlt fun hm=>hn (.inr (hone b hm).1),hf.shp⟩
  have hfresh : ∀ b,some b ∈ s.2.1.set p o -> some b ∈ s.2.1 \/ s.1.heap.size <= b:=fun b hm=>by
    rcases hmem b hm with h | h
    . rcases Nat.lt_or_ge b s.1.heap.size with h' | h'
      . exact .inl (hold b h h')
      . exact .inr h'
    . exact .inl h
  refine ⟨hbel,hstp,hmono,hfresh,fun hk=>?_⟩
  have hlt : ∀ b,some b ∈ s.2.1 -> b < s.1.heap.size:=fun b hm=>hk.fin b (.inr hm)
  have hA : ∀ c,c < s.1.heap.size -> AS A (w',(s.2.1.set p o,k::s.2.2)) c -> AS A s c:=fun c hc ha=>by
    rcases ha with ha | ha
    . exact .inl ha
    . rcases hfresh c ha with h | h
      . exact .inr h
      . omega
  refine ⟨fun b ha=>?_,fun j j' b h1 h2 e1 e2=>?_,fun b hm=>?_,by simp [hk.len],fun j b blk hj hbk he=>?_,fun j hj=>?_⟩
  . rcases ha with ha | ha
    . exact Nat.lt_of_lt_of_le (hk.fin b (.inl ha)) hf.size
    . rcases hmem b ha with h | h
      . exact (ho b h).1
      . exact Nat.lt_of_lt_of_le (hlt b h) hf.size
  . simp only [List.mem_cons,not_or] at e1 e2
    have hno : ∀ j,s.2.1[j]? = some (some b) -> j ≠ k -> j ∉ s.2.2 -> o ≠ some b:=fun j hj hjk hje hob=>by
      have:=(ho b hob).2 (hlt b (List.mem_of_getElem? hj))
      exact hjk (hk.inj j k b hj this hje hke)
    rcases hget j b h1 with ⟨q1,ho1⟩ | h1 <;> rcases hget j' b h2 with ⟨q2,ho2⟩ | h2
    . omega
    . exact absurd ho1 (hno j' h2 e2.1 e2.2)
    . exact absurd ho2 (hno j h1 e1.1 e1.2)
    . exact hk.inj j j' b h1 h2 e1.2 e2.2
  . rcases hmem b hm with h | h
    . rcases Nat.lt_or_ge b s.1.heap.size with h' | h'
      . exact hk.new b (hold b h h')
      . omega
    . exact hk.new b h
  . simp only [List.mem_cons,not_or] at he
    by_cases e : p = j
    . subst e
      rw [hHp] at hbk; cases hbk
      rw [List.getElem?_set_self hpl] at hj
      cases hj
      exact hb _ _
    . rw [List.getElem?_set_ne e] at hj
      refine (hk.blk j b blk hj hbk he.2).keep hstp hA (join_get (s:=s) (s':=(w',(s.2.1.set p o,k::s.2.2))) hmono) fun c e'=>?_
      cases e'
      refine hf.keep b (hlt b (List.mem_of_getElem? hj)) fun hm=>he.1 ?_
      exact hk.inj j k b hj (hone b hm).2 he.2 hke
  . rcases List.mem_cons.1 hj with rfl | hj
    . exact ⟨hQ,hHk⟩
    . exact hk.eat j hj
theorem fill_get {g γ : List (Option Nat)} {p : Nat} (hlen : p + γ.length <= g.length) : (∀ k,k < γ.length -> (g.take p ++ (γ ++ g.drop (p + γ.length)))[p + k]? = γ[k]?) /\ ∀ k,¬ (p <= k /\ k < p + γ.length) -> (g.take p ++ (γ ++ g.drop (p + γ.length)))[k]? = g[k]?:=by
  have htl : (g.take p).length = p:=by simp; omega
  refine ⟨fun k hk=>?_,fun k hk=>?_⟩
  . rw [List.getElem?_append_right (by omega),htl,Nat.add_sub_cancel_left,List.getElem?_append_left hk]
  . by_cases h : k < p
    . rw [List.getElem?_append_left (by omega),List.getElem?_take_of_lt h]
    . rw [List.getElem?_append_right (by omega),htl,List.getElem?_append_right (by omega),List.getElem?_drop]
      congr 1; omega
theorem dop_still {o : Oper} {op : IOp} (hc : cop P o = some op) (h1 : ∀ t,o.op ≠ .alloc t) (h2 : ∀ t x,o.op ≠ .box t x) (h3 : ∀ t x y,o.op ≠ .makeSlice t x y) (h4 : ∀ c,o.op ≠ .call c) : ∀ (n0 : Nat) (e : Env) (H : List Blk) (Q : List Nat) (K : SV -> Option Nat -> List Blk -> Prop),dop P n0 op e H Q K -> pop P op e H fun sv=>K sv none []:=by
  have no : (∀ z,op ≠ .al z) /\ (∀ x,op ≠ .bx x) /\ (∀ a b z l c,op ≠ .mk a b z l c) /\ (∀ f xs,op ≠ .call f xs):=by
    obtain ⟨q,hq⟩ : ∃ q,o.op = q:=⟨_,rfl⟩
    unfold cop at hc
    rw [hq] at hc
    cases q
    case alloc t=>exact absurd hq (h1 t)
    case box t x=>exact absurd hq (h2 t x)
    case makeSlice t x y=>exact absurd hq (h3 t x y)
    case call c=>exact absurd hq (h4 c)
    case' makeFunc fn first caps=>cases fn
    all_goals
      dsimp only at hc
      repeat' split at hc
      all_goals first
        | (cases hc; exact ⟨(fun _ h=>nomatch h),(fun _ h=>nomatch h),(fun _ _ _ _ _ h=>nomatch h),(fun _ _ h=>nomatch h)⟩)
        | (obtain ⟨_,_,rfl⟩:=Option.map_eq_some_iff.1 hc; exact ⟨(fun _ h=>nomatch h),(fun _ h=>nomatch h),(fun _ _ _ _ _ h=>nomatch h),(fun _ _ h=>nomatch h)⟩)
        | (obtain ⟨_,_,hc⟩:=Option.bind_eq_some_iff.1 hc; split at hc <;> cases hc; exact ⟨(fun _ h=>nomatch h),(fun _ h=>nomatch h),(fun _ _ _ _ _ h=>nomatch h),(fun _ _ h=>nomatch h)⟩)
        | cases hc
  intro n0 e H Q K h
  cases op
  case al z=>exact absurd rfl (no.1 z)
  case bx x=>exact absurd rfl (no.2.1 x)
  case mk a b z l c=>exact absurd rfl (no.2.2.1 a b z l c)
  case call f xs=>exact absurd rfl (no.2.2.2 f xs)
  all_goals exact h
def Head (P : Program) (w : World) (A : Nat -> Prop) (β : List (Option Nat)) (Hp : List Blk) (o : Oper) (e : Env) (sv : SV) (ck : Option Nat) (Hn : List Blk) : Prop :=
  ∀ (Hall : List Blk) (Qall : List Nat),(Hp ++ Hn) <+: Hall -> (∀ k,ck = some k -> k ∈ Qall) -> ∀ (s : GS) (a : Act),Belo w.heap.size w s.1 -> Okk w A β Hall Qall s -> (∀ k,k < Hn.length -> s.2.1[Hp.length + k]? = some none) -> (∀ k,ck = some (β.length + k) -> k ∉ s.2.2) -> (∀ t,Operand.tmp t ∈ o.op.operands -> RF A β (look e t) (a.tmps.getD t undef) s) ->
      rel P o a s.1 fun v w'=>∃ g',RS w A β Hall Qall s (w',g') /\ RF A β sv v (w',g') /\ (∀ k,¬ (Hp.length <= k /\ k < Hp.length + Hn.length) -> g'.1[k]? = s.2.1[k]?) /\ ∀ k,k ∈ g'.2 -> k ∈ s.2.2 \/ ck = some (β.length + k)
theorem unsh_shift (m : Nat) (b : Blk) : (b.shift m).unsh = b.shift m:=by cases b <;> rfl
theorem memN_spec {k : Nat} : ∀ {Q : List Nat},memN k Q = false ↔ k ∉ Q
  | []=>by simp [memN]
  | j :: Q => by
    have:=memN_spec (k:=k) (Q:=Q)
    simp only [memN,Bool.or_eq_false_iff,this,List.mem_cons,not_or]
    constructor
    . rintro ⟨h1,h2⟩; exact ⟨Nat.ne_of_beq_eq_false h1,h2⟩
    . rintro ⟨h1,h2⟩
      refine ⟨?_,h2⟩
      cases hb : Nat.beq k j with
      | false=>rfl
      | true=>exact absurd (Nat.eq_of_beq_eq_true hb) h1
theorem dop_sound (hWR : WRel w A β H) {o : Oper} {op : IOp} {e : Env} {Hp : List Blk} {Q : List Nat} {K : SV → Option Nat → List Blk → Prop} (hc : cop P o = some op) (h : dop P H.length op e (H ++ Hp) Q K) :
    ∃ sv ck Hn,K sv ck Hn /\ (∀ k,ck = some k -> β.length <= k /\ k ∉ Q) /\ Head P w A β Hp o e sv ck Hn:=by
  -- what turns nothing
  have still : (pop P op e (H ++ Hp) fun sv=>K sv none []) -> ∃ sv ck Hn,K sv ck Hn /\ (∀ k,ck = some k -> β.length <= k /\ k ∉ Q) /\ Head P w A β Hp o e sv ck Hn:=by
    intro h
    obtain ⟨sv,hK,hg⟩:=pop_sound hc h
    refine ⟨sv,none,[],hK,(fun k h=>nomatch h),fun Hall Qall hpre _ s a hb ho _ _ hr=>?_⟩
    rw [List.append_nil] at hpre
    refine rel_mono (hg s.1 (AS A s) (β ++ s.2.1) a ho.fin (wb_at hWR hb ho Hp hpre) hr) fun v w' ⟨hb',hrep⟩=>?_
    have hRS : RS w A β Hall Qall s (w',s.2):=⟨hb'.mono hb.size,Stp.below hb',fun _ _ h=>h,fun _ h=>.inl h,fun ho=>⟨fun b ha=>Nat.lt_of_lt_of_le (ho.fin b ha) hb'.size,ho.inj,ho.new,ho.len,fun k b blk hk hbk he=>(ho.blk k b blk hk hbk he).keep (Stp.below hb') (fun _ _ h=>h) (fun _ _ h=>h) (fun c e=>hb'.block c (by cases e; exact ho.fin b (.inr (List.mem_of_getElem? hk)))),ho.eat⟩⟩
    exact ⟨s.2,hRS,hrep,fun _ _=>rfl,fun _ h=>.inl h⟩
  -- one new block, at the end of the heap
  have one : ∀ (sv : SV) (blk : Blk) (v : World -> Value) (w2 : World -> World),blk.unsh = blk -> K sv none [blk] -> (∀ (s : GS) (a : Act),Belo w.heap.size w s.1 -> (∀ t,Operand.tmp t ∈ o.op.operands -> RF A β (look e t) (a.tmps.getD t undef) s) -> (∀ b,AS A s b -> b < s.1.heap.size) ->
      (∃ vv ww,(execOp a.eval o).run P s.1 = .ok (.value vv) ww /\ Belo s.1.heap.size s.1 ww /\ s.1.heap.size < ww.heap.size /\
        (∀ (A2 : Nat -> Prop) (β2 : List (Option Nat)),(∀ b,b < s.1.heap.size -> A2 b -> AS A s b) -> (∀ (k b : Nat),(β ++ s.2.1)[k]? = some (some b) -> β2[k]? = some (some b)) -> β2[(H ++ Hp).length]? = some (some s.1.heap.size) -> BlkRel ww A2 β2 (some s.1.heap.size) blk /\ Rep ww A2 β2 sv vv))) ->
      ∃ sv ck Hn,K sv ck Hn /\ (∀ k,ck = some k -> β.length <= k /\ k ∉ Q) /\ Head P w A β Hp o e sv ck Hn:=by
    intro sv blk _ _ hus hK hrun
    refine ⟨sv,none,[blk],hK,(fun k h=>nomatch h),fun Hall Qall hpre _ s a hb ho hun _ hr=>?_⟩
    obtain ⟨vv,ww,hrun,hbw,hlt,hrel⟩:=hrun s a hb hr ho.fin
    have hplen : Hp.length + 1 <= s.2.1.length:=by
      have:=hpre.length_le
      rw [ho.len]; simpa using this
    have hHall : Hall[Hp.length]? = some blk:=by
      obtain ⟨t,rfl⟩:=hpre
      rw [List.append_assoc,List.getElem?_append_right (Nat.le_refl _),Nat.sub_self]; rfl
    have hfg:=fill_get (g:=s.2.1) (γ:=[some s.1.heap.size]) (p:=Hp.length) (by simpa using hplen)
    have hname : (β ++ (s.2.1.take Hp.length ++ ([some s.1.heap.size] ++ s.2.1.drop (Hp.length + [some s.1.heap.size].length))))[(H ++ Hp).length]? = some (some s.1.heap.size):=by
      rw [List.length_append,<- hWR.len,List.getElem?_append_right (by omega),Nat.add_sub_cancel_left]
      have:=hfg.1 0 (by simp)
      simpa using this
    have hmono : ∀ (k b : Nat),s.2.1[k]? = some (some b) -> (s.2.1.take Hp.length ++ ([some s.1.heap.size] ++ s.2.1.drop (Hp.length + [some s.1.heap.size].length)))[k]? = some (some b):=fun k b hk=>by
      by_cases e : Hp.length <= k /\ k < Hp.length + [some s.1.heap.size].length
      . have e' : k = Hp.length:=by simp at e; omega
        have:=hun 0 (by simp)
        rw [e'] at hk
        simp only [Nat.add_zero] at this
        rw [this] at hk; cases hk
      . rw [hfg.2 k e]; exact hk
    have hA2 : ∀ b,b < s.1.heap.size -> AS A (ww,(s.2.1.take Hp.length ++ ([some s.1.heap.size] ++ s.2.1.drop (Hp.length + [some s.1.heap.size].length)),s.2.2)) b -> AS A s b:=fun b hb' ha=>by
      rcases ha with ha | ha
      . exact .inl ha
      . simp only [List.mem_append,List.mem_singleton] at ha
        rcases ha with h | h | h
        . exact .inr (List.mem_of_mem_take h)
        . cases h; omega
        . exact .inr (List.mem_of_mem_drop h)
    obtain ⟨hblk,hrep⟩:=hrel _ (β ++ (s.2.1.take Hp.length ++ ([some s.1.heap.size] ++ s.2.1.drop (Hp.length + [some s.1.heap.size].length)))) hA2 (fun k b hk=>by
        by_cases hl : k < β.length
        . rw [List.getElem?_append_left hl] at hk ⊢; exact hk
        . rw [List.getElem?_append_right (by omega)] at hk ⊢; exact hmono _ _ hk) hname
    refine rel_value hrun ⟨_,RS.make (γ:=[some s.1.heap.size]) (Hn:=[blk]) (p:=Hp.length) hb.size hbw (by simpa using hplen) (fun k hk=>hun k (by simpa using hk)) (fun b hm=>by simp at hm; subst hm; exact ⟨Nat.le_refl _,hlt⟩)
      (fun k k' b hk hk'=>?_) (fun k hk=>?_) (fun _ k b blk' hk hbk=>?_),hrep,fun k hk=>hfg.2 k (by simpa using hk),fun _ h=>.inl h⟩
    . have h1:=(List.getElem?_eq_some_iff.1 hk).1
      have h2:=(List.getElem?_eq_some_iff.1 hk').1
      simp at h1 h2; omega
    . simp at hk; subst hk; simpa using hHall
    . have h1:=(List.getElem?_eq_some_iff.1 hk).1
      simp at h1; subst h1
      simp at hk hbk
      subst hk hbk
      rw [hus]
      exact hblk
  -- a call that hands over new blocks
  have fo : ∀ (g : FuncId) (as' : List SV) (res : SV) (Hn Hn' : List Blk), Hn'.length = Hn.length → FO P g as' res Hn → K (res.shift (H ++ Hp).length) none Hn' →
      (∀ (Hall : List Blk) (Qall : List Nat) (s : GS) (a : Act), Belo w.heap.size w s.1 → Okk w A β Hall Qall s → Hp <+: Hall → (∀ t, Operand.tmp t ∈ o.op.operands → RF A β (look e t) (a.tmps.getD t undef) s) →
        ∃ (A1 : Nat → Prop) (vs : List Value), (∀ b, A1 b → AS A s b) ∧ Reps s.1 A1 [] as' vs ∧ ((∀ us w, (callFunc g us).run P w = .ok (.enter g us) w) → (execOp a.eval o).run P s.1 = .ok (.enter g vs.toArray) s.1) ∧
          ∀ (w' : World) (γ : List (Option Nat)) (v : Value), WRel w' (fun b => A1 b ∨ some b ∈ γ) γ Hn → Rep w' (fun b => A1 b ∨ some b ∈ γ) γ res v →
            (∀ (k b : Nat) (blk : Blk),γ[k]? = some (some b) -> Hn'[k]? = some blk -> BlkRel w' (fun b=>AS A s b \/ some b ∈ γ) (List.replicate (H ++ Hp).length none ++ γ) (some b) blk.unsh) /\ Rep w' (fun b=>AS A s b \/ some b ∈ γ) γ res v) ->
      ∃ sv ck Hn,K sv ck Hn /\ (∀ k,ck = some k -> β.length <= k /\ k ∉ Q) /\ Head P w A β Hp o e sv ck Hn:=by
    intro g as' res Hn Hn' hnl hFO hK hargs
    refine ⟨_,none,Hn',hK,(fun k h=>nomatch h),fun Hall Qall hpre _ s a hb ho hun _ hr=>?_⟩
    obtain ⟨A1,vs,hA1,hreps,hrun,hlift⟩:=hargs Hall Qall s a hb ho ((List.prefix_append _ _).trans hpre) hr
    unfold rel
    rw [hrun hFO.1]
    refine (hFO.2 s.1 A1 _ (fun b hb=>ho.fin b (hA1 b hb)) hreps).mono ?_
    rintro e' w' ⟨v,γ,rfl,hbw,hW,hnew,hrep⟩
    obtain ⟨hlb,hlr⟩:=hlift w' γ v hW hrep
    have hγ : γ.length = Hn'.length:=by rw [hnl]; exact hW.len
    have hplen : Hp.length + γ.length <= s.2.1.length:=by
      have:=hpre.length_le
      rw [ho.len,hγ]; simpa using this
    have hfg:=fill_get (g:=s.2.1) (γ:=γ) (p:=Hp.length) hplen
    have hname : ∀ (k b : Nat),γ[k]? = some (some b) -> (β ++ (s.2.1.take Hp.length ++ (γ ++ s.2.1.drop (Hp.length + γ.length))))[(H ++ Hp).length + k]? = some (some b):=fun k b hk=>by
      rw [List.length_append,<- hWR.len,List.getElem?_append_right (by omega),show β.length + Hp.length + k - β.length = Hp.length + k by omega,hfg.1 k (List.getElem?_eq_some_iff.1 hk).1]; exact hk
    have hA2 : ∀ b,b < w'.heap.size -> AS A (w',(s.2.1.take Hp.length ++ (γ ++ s.2.1.drop (Hp.length + γ.length)),s.2.2)) b -> AS A s b \/ some b ∈ γ:=fun b _ ha=>by
      rcases ha with ha | ha
      . exact .inl (.inl ha)
      . simp only [List.mem_append] at ha
        rcases ha with h | h | h
        . exact .inl (.inr (List.mem_of_mem_take h))
        . exact .inr h
        . exact .inl (.inr (List.mem_of_mem_drop h))
    -- a list of names of the right length ahead of the new ones
    have hlen0 : (List.replicate (H ++ Hp).length (none : Option Nat)).length = (H ++ Hp).length:=by simp
    have hmore : ∀ (k b : Nat),(List.replicate (H ++ Hp).length (none : Option Nat) ++ γ)[k]? = some (some b) -> (β ++ (s.2.1.take Hp.length ++ (γ ++ s.2.1.drop (Hp.length + γ.length))))[k]? = some (some b):=fun k b hk=>by
      by_cases hkl : k < (H ++ Hp).length
      . rw [List.getElem?_append_left (by simpa using hkl),List.getElem?_replicate_of_lt hkl] at hk; simp at hk
      . rw [List.getElem?_append_right (by simpa using hkl),hlen0] at hk
        have:=hname _ b hk
        rwa [show (H ++ Hp).length + (k - (H ++ Hp).length) = k by omega] at this
    refine ⟨v,rfl,_,RS.make (γ:=γ) (Hn:=Hn') (p:=Hp.length) hb.size hbw hplen (fun k hk=>hun k (by omega)) (fun b hm=>⟨hnew b hm,?_⟩) (fun k k' b h1 h2=>hW.inj k k' b h1 h2) (fun k hk=>?_) (fun _ k b blk hk hbk=>?_),?_,fun k hk=>hfg.2 k (by rw [hγ]; exact hk),fun _ h=>.inl h⟩
    . obtain ⟨k,hk,he⟩:=List.getElem_of_mem hm
      exact (hW.own k b (by simp [hk,he])).2
    . obtain ⟨t,rfl⟩:=hpre
      rw [List.append_assoc,List.getElem?_append_right (by omega),Nat.add_sub_cancel_left,List.getElem?_append_left (by omega)]
    . exact (hlb k b blk hk hbk).keep (Stp.refl _ _) hA2 hmore (fun _ _=>rfl)
    . have h1:=hlr.shift (List.replicate (H ++ Hp).length none)
      rw [hlen0] at h1
      exact (h1.mono (Stp.refl _ _) hA2).more _ hmore
  obtain ⟨q,hop⟩ : ∃ q,o.op = q:=⟨_,rfl⟩
  cases q with
  | alloc t =>
    simp only [cop,hop] at hc
    obtain ⟨z,hz,rfl⟩:=Option.map_eq_some_iff.1 hc
    refine one _ _ (fun _=>undef) id rfl h fun s a hb hr hfin=>?_
    obtain ⟨v,hv,hvz⟩:=run_zero (P:=P) hz
    subst hvz
    refine ⟨.pointer (some ⟨s.1.heap.size,0,none⟩),s.1.alloc (.cells v.cells t),by simp [execOp,hop,Instr.alloc,hv,newVar,newRow],(Belo.refl _ _).alloc (Nat.le_refl _) _,by simp,fun A2 β2 hA2 hβ hn=>⟨?_,?_⟩⟩
    . refine ⟨v.cells.toList,t,by simpa using World.alloc_heap_new _ _,by simp,fun j c u h1 h2=>?_⟩
      simp only [List.getElem?_map,h2,Option.map_some,Option.some.injEq] at h1
      exact h1 ▸ ofVal1_rep u
    . simpa using Rep.ptr (w:=s.1.alloc (.cells v.cells t)) (A:=A2) β2 (H ++ Hp).length 0 0 0 s.1.heap.size hn
  | box t x =>
    simp only [cop,hop,Option.some.injEq] at hc; subst hc
    simp only [dop] at h
    split at h
    . rename_i fs hfs
      refine one _ _ (fun _=>undef) id rfl h fun s a hb hr hfin=>?_
      have hf:=cellsOf_reps hfs (ev_rep (w:=s.1) (A:=AS A s) (β:=β ++ s.2.1) (e:=e) (a:=a) x fun t ht=>hr t (by simp [hop,Op.operands,ht]))
      have hbw : Belo s.1.heap.size s.1 (s.1.alloc (.cells (a.eval x).cells t)):=(Belo.refl _ _).alloc (Nat.le_refl _) _
      refine ⟨.pointer (some ⟨s.1.heap.size,0,none⟩),_,by simp [execOp,hop,Instr.box,newVar,newRow],hbw,by simp,fun A2 β2 hA2 hβ hn=>⟨?_,?_⟩⟩
      . exact ⟨(a.eval x).cells.toList,t,by simpa using World.alloc_heap_new _ _,hf.1,fun j c u h1 h2=>((hf.2 j c u h1 h2).mono (Stp.below hbw) hA2).more _ hβ⟩
      . simpa using Rep.ptr (w:=s.1.alloc (.cells (a.eval x).cells t)) (A:=A2) β2 (H ++ Hp).length 0 0 0 s.1.heap.size hn
    . exact h.elim
  | makeSlice t l c =>
    simp only [cop,hop] at hc
    split at hc
    . rename_i el hu
      split at hc
      . rename_i i z hi hz
        split at hc
        . rename_i hcond
          cases hc
          simp only [dop] at h
          obtain ⟨kl,lz,hl,h⟩:=asI_ex h
          obtain ⟨kc,cz,hc,h0,hlc,hbytes,h63,hp,hK⟩:=asI_ex h
          refine one _ _ (fun _=>undef) id rfl hK fun s a hb hr hfin=>?_
          have h1:=rep_int (hl ▸ ev_rep (w:=s.1) (A:=AS A s) (β:=β ++ s.2.1) (e:=e) (a:=a) l fun t ht=>hr t (by simp [hop,Op.operands,ht]))
          have h2:=rep_int (hc ▸ ev_rep (w:=s.1) (A:=AS A s) (β:=β ++ s.2.1) (e:=e) (a:=a) c fun t ht=>hr t (by simp [hop,Op.operands,ht]))
          obtain ⟨v,hv,hvz⟩:=run_zero (P:=P) hz
          unfold zeroOf at hz
          obtain ⟨v',hv',_⟩:=Option.map_eq_some_iff.1 hz
          have hzi : i.zero = some v':=by simpa [hi] using hv'
          have hvv : v' = v:=by
            have:=hv w
            simp [zeroValue,run_typeInfo hi,hzi] at this
            exact this
          subst hvv
          subst hvz
          have hvs : v'.cells.size = i.size:=by rw [<- hcond.1]; simp
          have hrun:=run_make (P:=P) s.1 t el i v' hu hi hzi kl kc lz cz h0 hlc hbytes h63
          have hbw : Belo s.1.heap.size s.1 (s.1.alloc (.cells (madeCells v'.cells (cz.toNat * i.size)) el)):=(Belo.refl _ _).alloc (Nat.le_refl _) _
          have hnew:=World.alloc_heap_new s.1 (.cells (madeCells v'.cells (cz.toNat * i.size)) el)
          refine ⟨_,_,by simp only [execOp,hop,h1,h2,Sem.run_bind,hrun,Result.andThen_ok,Sem.run_pure]; rfl,hbw,by simp,fun A2 β2 hA2 hβ hn=>⟨?_,?_⟩⟩
          . have hrow : Row (s.1.alloc (.cells (madeCells v'.cells (cz.toNat * i.size)) el)) A2 i.size (List.replicate lz.toNat (v'.cells.toList.map ofVal1)) (madeCells v'.cells (cz.toNat * i.size)).toList :=
              row_zero lz.toNat i.size v'.cells hvs hcond.2 hp (cz.toNat * i.size) (Nat.mul_le_mul_right _ (by omega))
            exact ⟨(madeCells v'.cells (cz.toNat * i.size)).toList,el,by simpa using hnew,hrow.1,hrow.2⟩
          . have:=Rep.osl (w:=s.1.alloc (.cells (madeCells v'.cells (cz.toNat * i.size)) el)) (A:=A2) β2 (H ++ Hp).length i.size 0 lz.toNat s.1.heap.size cz.toNat hn (by omega) ⟨_,_,_,hnew,by rw [size_madeCells]; simp⟩
            simpa using this
        . cases hc
      . cases hc
    . cases hc
  | call c =>
    have hc':=hc
    simp only [cop,hop] at hc
    split at hc
    . rename_i f hf
      cases hc
      simp only [dop] at h
      split at h
      . rename_i g pre caps hfn
        -- the arguments and the call
        have args : ∀ (w1 : World) (A1 : Nat -> Prop) (β1 : List (Option Nat)) (a : Act),(∀ t,Operand.tmp t ∈ o.op.operands -> Rep w1 A1 β1 (look e t) (a.tmps.getD t undef)) ->
            ∃ vs,Reps w1 A1 β1 (pre ++ (c.args.toList.map cOpd).map (ev e) ++ caps) vs /\ ((∀ us w,(callFunc g us).run P w = .ok (.enter g us) w) -> (execOp a.eval o).run P w1 = .ok (.enter g vs.toArray) w1):=fun w1 A1 β1 a hr=>by
          have hr' : ∀ x,x ∈ o.op.operands -> Rep w1 A1 β1 (ev e (cOpd x)) (a.eval x):=fun x hx=>ev_rep x fun t ht=>hr t (ht ▸ hx)
          have hfrep:=hr' f (by simp [hop,Op.operands,Call.operands,hf])
          obtain ⟨us,vs,hav,hus,hvs⟩:=fnsOf_rep hfn hfrep
          have hargs:=map_reps (e:=e) (a:=a) c.args.toList fun x hx=>hr' x (by simp [hop,Op.operands,Call.operands,hf]; exact .inr (by simpa using hx))
          refine ⟨_,reps_append (reps_append hus hargs) hvs,fun hcall=>?_⟩
          simp only [execOp,hop,resolve,hf,hav,Deferred.ofValue,Sem.run_bind,Sem.run_pure,Result.andThen_ok,invoke]
          have : (us.toArray ++ c.args.map a.eval ++ vs.toArray) = (us ++ c.args.toList.map a.eval ++ vs).toArray:=by
            apply Array.ext'; simp
          rw [this]
          exact hcall _ _
        rcases h with ⟨hp,res,hFS,hK⟩ | ⟨hp,res,Hn,hFO,hK⟩ | h | h | h | h
        . exact still (by simp only [pop,hfn]; exact .inl ⟨hp,res,hFS,hK⟩)
        . refine fo g _ res Hn _ (shiftH_length _ _) hFO hK fun Hall Qall s a hb ho hpre hr=>?_
          obtain ⟨vs,h1,h2⟩:=args s.1 (AS A s) (β ++ s.2.1) a hr
          refine ⟨AS A s,vs,fun _ h=>h,reps_purely h1 hp [],h2,fun w' γ v hW hrep=>⟨fun k b blk hk hbk=>?_,hrep⟩⟩
          rw [shiftH_get] at hbk
          obtain ⟨blk',hblk',rfl⟩:=Option.map_eq_some_iff.1 hbk
          rw [unsh_shift]
          have h3:=(hW.blk k (some b) blk' hk hblk').shift (List.replicate (H ++ Hp).length none)
          rwa [List.length_replicate] at h3
        . exact still (by simp only [pop,hfn]; exact .inr h)
        . unfold eatK at h
          split at h
          . rename_i k wd i n rest has
            split at h
            . rename_i wd' xs hHk
              obtain ⟨hnk,hQk,hh⟩:=h
              have hnk' : H.length <= k:=Nat.le_of_ble_eq_true hnk
              have hkp : Hp[k - H.length]? = some (.shut wd' xs):=by rwa [List.getElem?_append_right hnk'] at hHk
              obtain ⟨rest',⟨res,wd2,ys,js,hHS,hlo,hlo2,hK⟩,hl,hys⟩:=frzs_sound (frzK_sound 4) rest _ hh
              refine ⟨_,some k,[.arr wd2 ys],hK,fun j hj=>by cases hj; exact ⟨by rw [hWR.len]; exact hnk',memN_spec.1 hQk⟩,fun Hall Qall hpre hQall s a hb ho hun hne hr=>?_⟩
              obtain ⟨vs,h1,h2⟩:=args s.1 (AS A s) (β ++ s.2.1) a hr
              rw [has] at h1
              have hpre' : Hp <+: Hall:=(List.prefix_append _ _).trans hpre
              have hHall : Hall[k - β.length]? = some (.shut wd' xs):=by
                rw [hWR.len]
                obtain ⟨t,rfl⟩:=hpre'
                rw [List.getElem?_append_left (List.getElem?_eq_some_iff.1 hkp).1]; exact hkp
              have hkb : β.length <= k:=by rw [hWR.len]; exact hnk'
              have hkne : k - β.length ∉ s.2.2:=hne _ (by congr 1; omega)
              have hbk : (β ++ s.2.1)[k]? = s.2.1[k - β.length]?:=List.getElem?_append_right hkb
              have hC:=hs_frame (β:=β ++ s.2.1) hl hys hHS hlo hlo2 (wb_at hWR hb ho Hp hpre') ho.fin (fun b hb'=>?_) h1
              . unfold rel
                rw [h2 hHS.1]
                refine hC.mono ?_
                rintro e' w' ⟨v,o',rfl,hfrm,hob,hblk,hrep⟩
                have hun0 : s.2.1[Hp.length]? = some none:=by simpa using hun 0 (by simp)
                have hpl : Hp.length < s.2.1.length:=(List.getElem?_eq_some_iff.1 hun0).1
                rw [hbk] at hfrm hob
                refine ⟨v,rfl,(s.2.1.set Hp.length o',(k - β.length)::s.2.2),RS.turn hb.size hfrm hob hblk hun0 ?_ ⟨_,_,hHall⟩ ?_ hkne ho.new,?_,fun j hj=>?_,fun j hj=>?_⟩
                . obtain ⟨t,rfl⟩:=hpre
                  rw [List.append_assoc,List.getElem?_append_right (Nat.le_refl _),Nat.sub_self]; rfl
                . rw [show β.length + (k - β.length) = k by omega]; exact hQall k rfl
                . refine hrep _ _ _ ?_
                  show (β ++ s.2.1.set Hp.length o')[(H ++ Hp).length]? = some o'
                  rw [List.length_append,<- hWR.len,List.getElem?_append_right (by omega),Nat.add_sub_cancel_left,List.getElem?_set_self hpl]
                . show (s.2.1.set Hp.length o')[j]? = s.2.1[j]?
                  rw [List.getElem?_set_ne]
                  intro e; exact hj ⟨by omega,by simp; omega⟩
                . rcases List.mem_cons.1 hj with rfl | hj
                  . right; congr 1; omega
                  . exact .inl hj
              . rw [hbk] at hb'
                have hbA : AS A s b:=.inr (List.mem_of_getElem? hb')
                refine ⟨hbA,ho.blk _ b _ hb' hHall hkne,fun k' blk hk' hblk'=>?_⟩
                by_cases hl' : k' < β.length
                . rw [List.getElem?_append_left hl'] at hk'
                  have h3:=(hWR.own k' b hk').2
                  have h4:=ho.new b (List.mem_of_getElem? hb')
                  omega
                . rw [List.getElem?_append_right (by omega)] at hk'
                  rw [List.getElem?_append_right (by rw [<- hWR.len]; omega),<- hWR.len] at hblk'
                  have hH' : Hall[k' - β.length]? = some blk:=by
                    obtain ⟨t,rfl⟩:=hpre'
                    rw [List.getElem?_append_left (List.getElem?_eq_some_iff.1 hblk').1]; exact hblk'
                  by_cases he : k' - β.length ∈ s.2.2
                  . obtain ⟨_,wd9,xs9,h9⟩:=ho.eat _ he
                    rw [hH'] at h9; cases h9; rfl
                  . have:=ho.inj _ _ b hk' hb' he hkne
                    rw [this,hHall] at hH'
                    cases hH'; rfl
            . exact h.elim
          . exact h.elim
        . obtain ⟨ys,⟨res,Hn,hFO,hlo,hlo2,hK⟩,hl,hys⟩:=frzs_sound (frzK_sound 4) _ _ h
          refine fo g _ res Hn _ (shiftH_length _ _) hFO hK fun Hall Qall s a hb ho hpre hr=>?_
          obtain ⟨vs,h1,h2⟩:=args s.1 (AS A s) (β ++ s.2.1) a hr
          have hz:=frz_list (A1:=fun b=>AS A s b /\ some b ∉ β ++ s.2.1) hl hys (wb_at hWR hb ho Hp hpre) (fun b hb=>hb.1) (fun k b _ hk _ _ hb=>hb.2 (List.mem_of_getElem? hk)) h1.2
          refine ⟨_,vs,fun b hb=>hb.1,⟨by rw [hl]; exact h1.1,hz⟩,h2,fun w' γ v hW hrep=>⟨fun k b blk hk hbk=>?_,hrep.loosely hlo _⟩⟩
          rw [shiftH_get] at hbk
          obtain ⟨blk',hblk',rfl⟩:=Option.map_eq_some_iff.1 hbk
          rw [unsh_shift]
          have h3:=((hW.blk k (some b) blk' hk hblk').loosely (hlo2 blk' (List.mem_of_getElem? hblk')) (fun b=>AS A s b \/ some b ∈ γ)).shift (List.replicate (H ++ Hp).length none)
          rwa [List.length_replicate] at h3
        . obtain ⟨ys,⟨res,wd,xs,hFO,hlo,hlo2,hK⟩,hl,hys⟩:=frzs_sound (frzK_sound 4) _ _ h
          refine fo g _ res [.arr wd xs] [.shut wd xs] rfl hFO hK fun Hall Qall s a hb ho hpre hr=>?_
          obtain ⟨vs,h1,h2⟩:=args s.1 (AS A s) (β ++ s.2.1) a hr
          have hz:=frz_list (A1:=fun b=>AS A s b /\ some b ∉ β ++ s.2.1) hl hys (wb_at hWR hb ho Hp hpre) (fun b hb=>hb.1) (fun k b _ hk _ _ hb=>hb.2 (List.mem_of_getElem? hk)) h1.2
          refine ⟨_,vs,fun b hb=>hb.1,⟨by rw [hl]; exact h1.1,hz⟩,h2,fun w' γ v hW hrep=>⟨fun k b blk hk hbk=>?_,hrep.loosely hlo _⟩⟩
          have hk0 : k = 0:=by have:=(List.getElem?_eq_some_iff.1 hbk).1; simp at this; exact this
          subst hk0
          simp only [List.getElem?_cons_zero,Option.some.injEq] at hbk
          subst hbk
          exact (hW.blk 0 (some b) _ hk rfl).loosely hlo2 (fun b=>AS A s b \/ some b ∈ γ)
      . exact h.elim
    . cases hc; exact still h
    . rename_i b hb
      split at hc
      . cases hc; exact still h
      . cases hc; exact still h
      . cases hc; exact still h
      . cases hc; exact still h
      . split at hc
        . split at hc
          . cases hc; exact still h
          . cases hc
        . cases hc
      . split at hc
        . split at hc
          . cases hc; exact still h
          . cases hc
        . cases hc
      . split at hc
        . split at hc
          . cases hc; exact still h
          . cases hc
        . cases hc
      . cases hc; exact still h
  | _=>exact still (dop_still hc (fun t h=>by rw [hop] at h; cases h) (fun t x h=>by rw [hop] at h; cases h) (fun t x y h=>by rw [hop] at h; cases h) (fun c h=>by rw [hop] at h; cases h) _ _ _ _ _ h)
end
end
section
open Go.RowKit
section
variable {P : Program} {w : World} {A : Nat -> Prop} {β : List (Option Nat)} {H : List Blk}
def UU (n0 : Nat) (st : Nat -> Nat) (c : Nat -> Option Nat) (j : Nat) (s : GS) : Prop:=(∀ q,st j <= q -> q < st (j + 1) -> s.2.1[q]? = some none) /\ ∀ k,c j = some (n0 + k) -> k ∉ s.2.2
structure Stretch (P : Program) (w : World) (A : Nat -> Prop) (β : List (Option Nat)) (ops : Array Oper) (N : Nat) (os : List Oper) (e : Env) (Hp : List Blk) (Q : List Nat) (Hn : List Blk) (e' : Env) (Q' : List Nat) (G : Nat -> Fact Gn) (S : Nat -> Nat) (C : Nat -> Option Nat) : Prop where
  s0 : S 0 = Hp.length
  s1 : S os.length = Hp.length + Hn.length
  up : ∀ k,k < os.length -> S k <= S (k + 1)
  grow : ∀ x ∈ Q,x ∈ Q'
  newer : ∀ x ∈ Q',x ∈ Q \/ β.length <= x
  cin : ∀ k x,C k = some x -> x ∉ Q /\ x ∈ Q'
  one : ∀ i j x,C i = some x -> C j = some x -> i = j
  all : ∀ (Hall : List Blk) (Qall : List Nat),(Hp ++ Hn) <+: Hall -> (∀ x ∈ Q',x ∈ Qall) -> ∀ (j0 : Nat) (F : Nat -> Fact Gn) (C0 : Tmp -> Fact Gn) (st : Nat -> Nat) (c : Nat -> Option Nat),(∀ (k : Nat) (o : Oper),os[k]? = some o -> ops[j0 + k]? = some o) -> (∀ k,k < os.length -> F (j0 + k) = G k) -> (∀ k,k <= os.length -> st (j0 + k) = S k) ->
    (∀ k,k < os.length -> c (j0 + k) = C k) -> (∀ i j x,c i = some x -> c j = some x -> i = j) ->
    (∀ i j,i <= j -> st i <= st j) -> (∀ t v s,Cat ops F C0 j0 t v s -> RF A β (look e t) v s) ->
    (∀ t v s,Cat ops F C0 (j0 + os.length) t v s -> RF A β (look e' t) v s) /\
    (∀ (k : Nat) (o : Oper),os[k]? = some o -> ∀ (s0 : GS) (D : List Deferred),Okk w A β Hall Qall s0 -> Belo w.heap.size w s0.1 -> Obl P ops (RS w A β Hall Qall) (UU β.length st c) s0 N D (Cat ops F C0 (j0 + k)) (j0 + k) o (G k)) /\
    (∀ (k : Nat) (o : Oper) (x : Operand),os[k]? = some o -> o.guard = none -> o.op = .move x -> ∀ (a : Act) (s : GS),(∀ t,x = .tmp t -> Cat ops F C0 (j0 + k) t (a.tmps.getD t undef) s) -> G k (a.eval x) s)
theorem cat_step {ops : Array Oper} {F : Nat -> Fact Gn} {C0 : Tmp -> Fact Gn} {j : Nat} {o : Oper} (ho : ops[j]? = some o) {e : Env} {sv : SV} (hF : ∀ v s,F j v s -> RF A β sv v s)
    (h : ∀ t v s,Cat ops F C0 j t v s -> RF A β (look e t) v s) : ∀ t v s,Cat ops F C0 (j + 1) t v s -> RF A β (look (setE e o.dst sv) t) v s:=by
  intro t v s hc
  simp only [Cat,upd,ho,Option.bind_some] at hc
  split at hc
  . rename_i hd
    simp only [hd,setE,look,if_true]
    exact hF v s hc
  . rename_i hd
    cases hdd : o.dst with
    | none=>simpa [setE] using h t v s hc
    | some d =>
      have : d ≠ t:=fun e=>hd (by rw [hdd,e])
      simp only [setE,look,if_neg this]
      exact h t v s hc
theorem eatQ_mem {ck : Option Nat} {Q : List Nat} {x : Nat} : x ∈ eatQ ck Q ↔ ck = some x \/ x ∈ Q:=by
  cases ck with
  | none=>simp [eatQ]
  | some k=>simp [eatQ,eq_comm]
theorem dvc_list (hWR : WRel w A β H) {ops : Array Oper} {N : Nat} : ∀ (os : List Oper) (is : List Ins), os.mapM (cIns P ops N) = some is → ∀ (e : Env) (Hp : List Blk) (Q : List Nat) (K : Env → List Blk → List Nat → Prop), dvc P H.length is e (H ++ Hp) Q K →
    ∃ (Hn : List Blk) (e' : Env) (Q' : List Nat) (G : Nat -> Fact Gn) (S : Nat -> Nat) (C : Nat -> Option Nat),K e' (H ++ Hp ++ Hn) Q' /\ Stretch P w A β ops N os e Hp Q Hn e' Q' G S C
  | [], is, hm, e, Hp, Q, K, h => by
    simp at hm; subst hm
    refine ⟨[],e,Q,fun _ _ _=>True,fun _=>Hp.length,fun _=>none,by simpa [dvc_nil_eq] using h,rfl,by simp,fun k hk=>Nat.le_refl _,fun _ h=>h,fun _ h=>.inl h,(fun k x h=>nomatch h),(fun i j x h=>nomatch h),fun Hall Qall hpre hQ j0 F C0 st c _ _ _ _ _ _ hC=>⟨by simpa using hC,fun k o ho=>by simp at ho,fun k o x ho=>by simp at ho⟩⟩
  | o :: os, is, hm, e, Hp, Q, K, h => by
    simp only [List.mapM_cons,Option.bind_eq_bind,Option.pure_def] at hm
    obtain ⟨i,hi,hm⟩:=Option.bind_eq_some_iff.1 hm
    obtain ⟨is',his,hm⟩:=Option.bind_eq_some_iff.1 hm
    cases hm
    obtain ⟨hcop,hdst,hdN,hgd⟩:=cIns_spec hi
    simp only [dvc_cons_eq,fc_eq,fhj_eq] at h
    -- a guard's slot is looked at
    have hlook : ∀ t,i.guard.map (·.1) = some t -> t ∈ o.looksAt ops:=fun t ht=>by
      rcases hgd with ⟨_,h2⟩ | ⟨j,want,t',h1,h2,h3,h4⟩
      . simp [h2] at ht
      . simp [h4] at ht; subst ht
        simp [Oper.looksAt,h1,h2]
    have hoper : ∀ t,Operand.tmp t ∈ o.op.operands -> t ∈ o.looksAt ops:=fun t ht=>List.mem_append_left _ (List.mem_filterMap.2 ⟨.tmp t,by simpa using ht,rfl⟩)
    -- one operation ahead of a stretch
    have join : ∀ (e2 : Env),(∀ t,look e2 t = look e t) -> ∀ (sv : SV) (ck : Option Nat) (H1 : List Blk) (G0 : Fact Gn),(∀ k,ck = some k -> β.length <= k /\ k ∉ Q) -> (∀ v s,G0 v s -> RF A β sv v s) ->
        dvc P H.length is' (setE e2 i.dst sv) (H ++ (Hp ++ H1)) (eatQ ck Q) K ->
        (∀ (Hall : List Blk) (Qall : List Nat),(Hp ++ H1) <+: Hall -> (∀ x ∈ eatQ ck Q,x ∈ Qall) -> ∀ (j0 : Nat) (Ct : Tmp -> Fact Gn) (st : Nat -> Nat) (c : Nat -> Option Nat),st j0 = Hp.length -> st (j0 + 1) = Hp.length + H1.length -> c j0 = ck -> (∀ i j x,c i = some x -> c j = some x -> i = j) -> (∀ i j,i <= j -> st i <= st j) -> (∀ t v s,Ct t v s -> RF A β (look e t) v s) ->
          (∀ (s0 : GS) (D : List Deferred),Okk w A β Hall Qall s0 -> Belo w.heap.size w s0.1 -> Obl P ops (RS w A β Hall Qall) (UU β.length st c) s0 N D Ct j0 o G0) /\
          (∀ (x : Operand),o.guard = none -> o.op = .move x -> ∀ (a : Act) (s : GS),(∀ t,x = .tmp t -> Ct t (a.tmps.getD t undef) s) -> G0 (a.eval x) s)) ->
        ∃ (Hn : List Blk) (e' : Env) (Q' : List Nat) (G : Nat -> Fact Gn) (S : Nat -> Nat) (C : Nat -> Option Nat),K e' (H ++ Hp ++ Hn) Q' /\ Stretch P w A β ops N (o::os) e Hp Q Hn e' Q' G S C:=by
      intro e2 hlk sv ck H1 G0 hck hG1 hrest hob
      obtain ⟨Hn,e',Q',G,S,C,hK,hs⟩:=dvc_list hWR os is' his _ _ _ K hrest
      have hckin : ∀ x,ck = some x -> x ∈ Q':=fun x hx=>hs.grow x (eatQ_mem.2 (.inl hx))
      refine ⟨H1 ++ Hn,e',Q',fun k=>match k with | 0=>G0 | k + 1=>G k,fun k=>match k with | 0=>Hp.length | k + 1=>S k,fun k=>match k with | 0=>ck | k + 1=>C k,by simpa [List.append_assoc] using hK,rfl,?_,fun k hk=>?_,fun x hx=>hs.grow x (eatQ_mem.2 (.inr hx)),fun x hx=>?_,fun k x hk=>?_,fun i j x h1 h2=>?_,fun Hall Qall hpre hQ j0 F C0 st c hops hF hst hc hone hup hC=>?_⟩
      . have:=hs.s1
        simp only [List.length_append] at this ⊢
        simpa [Nat.add_assoc] using this
      . cases k with
        | zero =>
          have:=hs.s0
          simp only [List.length_append] at this
          show Hp.length <= S 0
          omega
        | succ k=>exact hs.up k (by simpa using hk)
      . rcases hs.newer x hx with h | h
        . rcases eatQ_mem.1 h with h | h
          . exact .inr (hck x h).1
          . exact .inl h
        . exact .inr h
      . cases k with
        | zero=>exact ⟨(hck x hk).2,hckin x hk⟩
        | succ k =>
          obtain ⟨h1,h2⟩:=hs.cin k x hk
          exact ⟨fun h=>h1 (eatQ_mem.2 (.inr h)),h2⟩
      . cases i with
        | zero => cases j with
          | zero=>rfl
          | succ j=>exact absurd (eatQ_mem.2 (.inl h1)) (hs.cin j x h2).1
        | succ i => cases j with
          | zero=>exact absurd (eatQ_mem.2 (.inl h2)) (hs.cin i x h1).1
          | succ j=>rw [hs.one i j x h1 h2]
      . have h0 : ops[j0]? = some o:=by simpa using hops 0 o (by simp)
        have hF0 : F j0 = G0:=by simpa using hF 0 (by simp)
        have hst0 : st j0 = Hp.length:=by simpa using hst 0 (by simp)
        have hst1 : st (j0 + 1) = Hp.length + H1.length:=by
          rw [hst 1 (by simp)]
          show S 0 = _
          rw [hs.s0]; simp
        have hc0 : c j0 = ck:=by simpa using hc 0 (by simp)
        have hpre1 : (Hp ++ H1) <+: Hall:=by
          obtain ⟨t,ht⟩:=hpre
          exact ⟨Hn ++ t,by rw [<- ht]; simp [List.append_assoc]⟩
        have hC1:=cat_step (A:=A) (β:=β) (F:=F) (C0:=C0) (e:=e2) h0 (fun v s h=>hG1 v s (hF0 ▸ h)) (fun t v s hc=>by rw [hlk]; exact hC t v s hc)
        rw [<- hdst] at hC1
        obtain ⟨r1,r2,r4⟩:=hs.all Hall Qall (by simpa [List.append_assoc] using hpre) hQ (j0 + 1) F C0 st c (fun k o' ho'=>by
            have:=hops (k + 1) o' (by simpa using ho')
            rwa [show j0 + (k + 1) = j0 + 1 + k by omega] at this) (fun k hk=>by
            have:=hF (k + 1) (by simpa using hk)
            rwa [show j0 + (k + 1) = j0 + 1 + k by omega] at this) (fun k hk=>by
            have:=hst (k + 1) (by simpa using hk)
            rwa [show j0 + (k + 1) = j0 + 1 + k by omega] at this) (fun k hk=>by
            have:=hc (k + 1) (by simpa using hk)
            rwa [show j0 + (k + 1) = j0 + 1 + k by omega] at this) hone hup hC1
        obtain ⟨o1,o2⟩:=hob Hall Qall hpre1 (fun x hx=>hQ x (hs.grow x hx)) j0 (Cat ops F C0 j0) st c hst0 hst1 hc0 hone hup hC
        refine ⟨by rw [show j0 + (o::os).length = j0 + 1 + os.length by simp; omega]; exact r1,fun k o' ho' s0 D hok hb=>?_,fun k o' x ho' hgn hx a s hc=>?_⟩
        . cases k with
          | zero=>simp at ho'; subst ho'; exact o1 s0 D hok hb
          | succ k =>
            have:=r2 k o' (by simpa using ho') s0 D hok hb
            rwa [show j0 + 1 + k = j0 + (k + 1) by omega] at this
        . cases k with
          | zero=>simp at ho'; subst ho'; exact o2 x hgn hx a s hc
          | succ k =>
            refine r4 k o' x (by simpa using ho') hgn hx a s fun t ht=>?_
            have:=hc t ht
            rwa [show j0 + (k + 1) = j0 + 1 + k by omega] at this
    have below_trans : ∀ {x y z : World},Belo x.heap.size x y -> Belo x.heap.size y z -> Belo x.heap.size x z:=fun h1 h2=>h1.trans h2
    rcases guard_spec hi h with ⟨e2,hrun,hlk,hw⟩ | ⟨e2,hskip,hlk,hgs,hw⟩
    · -- it runs
      obtain ⟨sv,ck,H1,hK1,hck,hdo,hmvs⟩ : ∃ sv ck H1,dvc P H.length is' (setE e2 i.dst sv) (H ++ Hp ++ H1) (eatQ ck Q) K /\ (∀ k,ck = some k -> β.length <= k /\ k ∉ Q) /\ Head P w A β Hp o e2 sv ck H1 /\
          ∀ (x : Operand),o.op = .move x -> sv = ev e2 (cOpd x) /\ H1 = []:=by
        by_cases hmv : ∃ x,o.op = .move x
        . obtain ⟨x,hx⟩:=hmv
          have hc : i.op = .mv (cOpd x):=by
            have:=hcop
            simp only [cop,hx,Option.some.injEq] at this
            exact this.symm
          rw [hc] at hrun
          refine ⟨ev e2 (cOpd x),none,[],hrun,(fun k h=>nomatch h),fun Hall Qall hpre _ s a hb ho _ _ hr=>?_,fun y hy=>by rw [hx] at hy; cases hy; exact ⟨rfl,rfl⟩⟩
          refine rel_value (v:=a.eval x) (w':=s.1) (by simp [execOp,hx]) ⟨s.2,RS.refl s,?_,fun _ _=>rfl,fun _ h=>.inl h⟩
          exact ev_rep x fun t ht=>hr t (by simp [hx,Op.operands,ht])
        . obtain ⟨sv,ck,H1,h1,h2,h3⟩:=dop_sound hWR hcop hrun
          exact ⟨sv,ck,H1,h1,h2,h3,fun x hx=>absurd ⟨x,hx⟩ hmv⟩
      rw [List.append_assoc] at hK1
      refine join e2 hlk sv ck H1 (fun v s=>RF A β sv v s) hck (fun v s h=>h) hK1 fun Hall Qall hpre hQ j0 Ct st c hst0 hst1 hc0 hone hup hC=>⟨fun s0 D hok0 hb0=>⟨fun v s s' hR hg=>rep_step hR hg,fun a s hR hU hD hN hT=>?_⟩,fun x hgn hx a s hc=>?_⟩
      . have hTt : ∀ t ∈ o.looksAt ops,RF A β (look e2 t) (a.tmps.getD t undef) s:=fun t ht=>by rw [hlk]; exact hC t _ _ (hT t ht)
        rw [if_pos (hw s.1 (AS A s) (β ++ s.2.1) a.tmps hN fun t ht=>by have:=hTt t (hlook t ht); rw [hlk] at this; exact this)]
        refine rel_mono (hdo Hall Qall hpre (fun k hk=>hQ k (eatQ_mem.2 (.inl hk))) s a (below_trans hb0 hR.below) (hR.okk hok0) (fun k hk=>hU.1 _ (by omega) (by omega)) (fun k hk=>hU.2 k (by rw [hc0,hk])) fun t ht=>hTt t (hoper t ht)) fun v w' ⟨g',hRS,hrep,hold,heat⟩=>?_
        refine ⟨g',hRS,hrep,fun k hk hUk=>⟨fun q h1 h2=>?_,fun x hx hm=>?_⟩⟩
        . have hout : ¬ (Hp.length <= q /\ q < Hp.length + H1.length):=fun ⟨h3,h4⟩=>by
            rcases Nat.lt_or_gt_of_ne hk with hlt | hlt
            . have:=hup (k + 1) j0 (by omega); omega
            . have:=hup (j0 + 1) k (by omega); omega
          rw [hold q hout]; exact hUk.1 q h1 h2
        . rcases heat x hm with h | h
          . exact hUk.2 x hx h
          . exact hk (hone k j0 _ hx (by rw [hc0,h]))
      . obtain ⟨hsv,hH1⟩:=hmvs x hx
        show RF A β sv (a.eval x) s
        rw [hsv]
        exact ev_rep x fun t ht=>by rw [hlk]; exact hC t _ _ (hc t ht)
    · -- it does not
      refine join e2 hlk (.tup []) none [] (fun v _=>v = undef) (fun k h=>nomatch h) (fun v s h=>?_) (by simpa [eatQ] using hskip) fun Hall Qall hpre hQ j0 Ct st c hst0 hst1 hc0 hone hup hC=>⟨fun s0 D hok0 hb0=>⟨fun v s s' hR hg=>hg,fun a s hR hU hD hN hT=>?_⟩,fun x hgn hx a s hc=>?_⟩
      . subst h; exact .tup _ [] [] rfl fun i f v h=>by simp at h
      . rw [if_neg]
        rw [hw s.1 (AS A s) (β ++ s.2.1) a.tmps hN fun t ht=>hC t _ _ (hT t (hlook t ht))]
        simp
      . rcases hgd with ⟨_,h2⟩ | ⟨j,want,t',h1,_⟩
        . rw [h2] at hgs; cases hgs
        . rw [h1] at hgn; cases hgn
end
end
section
open Go.RowKit
section
variable {P : Program} {w0 : World} {A0 : Nat -> Prop} {β0 : List (Option Nat)} {M : Nat} {ks : List Nat} {w : World} {A : Nat -> Prop} {β : List (Option Nat)} {H : List Blk}
theorem mapM_spec {f : Oper -> Option Ins} : ∀ {l : List Oper} {is : List Ins},l.mapM f = some is -> is.length = l.length /\ (∀ k : Nat,(l.take k).mapM f = some (is.take k)) /\ (∀ k : Nat,(l.drop k).mapM f = some (is.drop k)) /\ ∀ (o : Oper),o ∈ l -> ∃ i,f o = some i
  | [],is,h=>by simp at h; subst h; simp
  | o :: l, is, h => by
    have h':=h
    simp only [List.mapM_cons,Option.bind_eq_bind,Option.pure_def] at h
    obtain ⟨i,hi,h⟩:=Option.bind_eq_some_iff.1 h
    obtain ⟨is',his,h⟩:=Option.bind_eq_some_iff.1 h
    cases h
    obtain ⟨h1,h2,h3,h4⟩:=mapM_spec his
    refine ⟨by simp [h1],fun k=>?_,fun k=>?_,fun o' ho'=>?_⟩
    . cases k with
      | zero=>simp
      | succ k=>simp [List.mapM_cons,hi,h2 k]
    . cases k with
      | zero=>simpa using h'
      | succ k=>simpa using h3 k
    . rcases List.mem_cons.1 ho' with h | h
      . exact ⟨i,h ▸ hi⟩
      . exact h4 o' h
theorem wpOpIn_round {m : Nat} {r : Option Nat} {ops : Array Oper} {i : Nat} {a : Act} {w : World} {K : Act -> World -> Prop} {Q : Exit -> Act -> World -> Prop} (hd : ∀ o,ops[i]? = some o -> ∀ c,o.op ≠ .defer c) (h : wpOpIn Fence.wide m P ops Q i K a w) : wpOpIn (Fr r) m P ops Q i K a w:=by
  unfold wpOpIn at *
  split
  . rename_i ho
    simpa [ho] using h
  . rename_i o ho
    simp only [ho] at h
    split
    . rename_i hw
      rw [if_pos hw] at h
      exact wpIn_round (hd o ho) h
    . rename_i hw
      rw [if_neg hw] at h
      exact h
theorem wpAnyIn_round {m : Nat} {r : Option Nat} {md : Region.Mode} {ops : Array Oper} {Q : Exit -> Act -> World -> Prop} (hd : ∀ (i : Nat) (o : Oper),ops[i]? = some o -> ∀ c,o.op ≠ .defer c) : ∀ (fuel : Nat) (l : Array Bool) (a : Act) (w : World),
    wpAnyIn Fence.wide m P md ops Q fuel l a w -> wpAnyIn (Fr r) m P md ops Q fuel l a w
  | 0,_l,_,_,h=>h
  | fuel + 1,_l,_a,_w,h=>⟨h.1,fun i hi=>wpOpIn_mono (fun a w h=>wpAnyIn_round hd fuel _ a w h) (wpOpIn_round (hd i) (h.2 i hi))⟩
def unname : List Nat -> List (Option Nat) -> List (Option Nat)
  | [],β=>β
  | k::ks,β=>unname ks (β.set k none)
theorem unname_length : ∀ (sel : List Nat) (β : List (Option Nat)),(unname sel β).length = β.length
  | [],_=>rfl
  | k::sel,β=>by rw [unname,unname_length sel]; simp
theorem unname_get : ∀ (sel : List Nat) (β : List (Option Nat)) (j b : Nat),(unname sel β)[j]? = some (some b) ↔ j ∉ sel /\ β[j]? = some (some b)
  | [],β,j,b=>by simp [unname]
  | k :: sel, β, j, b => by
    rw [unname,unname_get sel]
    by_cases e : k = j
    . subst e
      constructor
      . rintro ⟨h1,h2⟩
        rw [List.getElem?_set] at h2
        split at h2
        . split at h2 <;> simp at h2
        . rename_i h; exact absurd rfl h
      . rintro ⟨h1,h2⟩; simp at h1
    . rw [List.getElem?_set_ne e]
      simp [Ne.symm e]
theorem unname_same : ∀ (sel : List Nat) (β : List (Option Nat)) (k : Nat),k ∉ sel -> (unname sel β)[k]? = β[k]?
  | [],β,k,_=>rfl
  | j :: sel, β, k, h => by
    simp only [List.mem_cons,not_or] at h
    rw [unname,unname_same sel _ k h.2,List.getElem?_set_ne (Ne.symm h.1)]
theorem deadHs_length : ∀ (sel : List Nat) (H : List Blk),(deadHs sel H).length = H.length
  | [],_=>rfl
  | k::sel,H=>by rw [deadHs,deadHs_length sel]; simp [killH_length]
theorem WB.unname1 (k : Nat) (h : WB w A β H) : WB w A (β.set k none) ((killH k H).set k .dead):=by
  refine ⟨fun j o blk hj hb=>?_⟩
  cases o with
  | none=>trivial
  | some b =>
    obtain ⟨hjk,hj'⟩:=(unname_get [k] β j b).1 hj
    have hjk : j ≠ k:=by simpa using hjk
    rw [List.getElem?_set_ne (Ne.symm hjk),killH_get] at hb
    obtain ⟨blk',hb',rfl⟩:=Option.map_eq_some_iff.1 hb
    refine (h.blk j _ blk' hj' hb').killed (Stp.refl _ _) (fun _ _ h=>h) k (fun i c hi hc=>?_) fun _ _=>rfl
    rw [List.getElem?_set_ne (Ne.symm hi)]; exact hc
theorem WB.unname : ∀ (sel : List Nat) {β : List (Option Nat)} {H : List Blk},WB w A β H -> WB w A (unname sel β) (deadHs sel H)
  | [],_,_,h=>h
  | k::sel,_,_,h=>WB.unname sel (h.unname1 k)
theorem draw_sound (hm : P.follows .mixedOrders = true) {y : Yv} {Y : Ysem} (hY : Yok P A0 β0 M ks y Y) {m id n N : Nat} {r : Option Nat} {l : List Oper} {is : List Ins} {e : Env} {g : Option Nat} {K : Env → List Blk → Option Nat → Prop} {Q : Exit → Act → World → Prop} {a : Act} (his : l.mapM (cIns P l.toArray N) = some is) (hB : Region.lawB l.toArray n N = true)
    (h : dvc P H.length (is.take n) e H [] fun e H Q=>endK Q e H fun e H=>rvc P M ks y (is.drop n) e H g K) (hS : Sta w0 A0 β0 M ks N y Y g e H a w A β)
    (hQ : ∀ e' H' g' a' w' A' β',K e' H' g' -> Sta w0 A0 β0 M ks N y Y g' e' H' a' w' A' β' -> Q .normal a' w') : (Code.region id l.toArray true).wpIn (Fr r) m P Q a w:=by
  obtain ⟨hlen,htake,hdrop,hall⟩:=mapM_spec his
  refine wpIn_mono (Q:=fun ex a w=>match ex with | .normal=>Q .normal a w | _=>False) (wpIn_region_any hm (wpAnyIn_round (fun i o ho=>?_) _ _ _ _ ?_)) (fun ex a w hq=>by cases ex <;> first | exact hq | exact hq.elim)
  . obtain ⟨i',hi'⟩:=hall o (by simpa using List.mem_of_getElem? (by simpa using ho))
    exact cop_defer (cIns_spec hi').1
  have hB':=hB
  simp only [Region.lawB,Bool.and_eq_true,Bool.or_eq_true,decide_eq_true_eq] at hB'
  obtain ⟨⟨⟨⟨hsel,hpair⟩,hback⟩,hdst⟩,hn⟩:=hB'
  have hnl : n <= l.length:=by rcases hn with h | h <;> simp at h <;> omega
  have hol : (l.take n).length = n:=by simp; omega
  have hops : ∀ (k : Nat) (o : Oper),k < n -> l.toArray[k]? = some o -> (l.take n)[k]? = some o:=fun k o hk ho=>by
    rw [List.getElem?_take_of_lt hk]; simpa using ho
  obtain ⟨Hn,e',Q,G,S,C,hK,hs⟩:=dvc_list hS.cur.rel (ops:=l.toArray) (N:=N) (l.take n) (is.take n) (htake n) e [] [] _ (by simpa using h)
  simp only [List.append_nil] at hK
  rw [endK_eq] at hK
  have hS0 : S 0 = 0:=hs.s0
  have hS1 : S n = Hn.length:=by have:=hs.s1; rw [hol] at this; simpa using this
  have hup : ∀ k,k < n -> S k <= S (k + 1):=fun k hk=>hs.up k (by omega)
  have hmon : ∀ i j,i <= j -> j <= n -> S i <= S j:=by
    intro i j hij
    induction j with
    | zero=>intro _; cases Nat.le_zero.1 hij; exact Nat.le_refl _
    | succ j ih =>
      intro hj
      by_cases h' : i = j + 1
      . subst h'; exact Nat.le_refl _
      . exact Nat.le_trans (ih (by omega) (by omega)) (hup j (by omega))
  let g0 : List (Option Nat):=List.replicate Hn.length none
  have hg0 : ∀ b : Nat,some b ∉ g0:=fun b hb=>by have:=(List.mem_replicate.1 hb).2; cases this
  have hg0k : ∀ (k b : Nat),g0[k]? ≠ some (some b):=fun k b h=>hg0 b (List.mem_of_getElem? h)
  obtain ⟨r1,r2,r4⟩:=hs.all Hn Q (by simp) (fun _ h=>h) 0 G (fun t=>RF A β (look e t)) (fun k=>S (min k n)) C (fun k o ho=>by
      have : k < (l.take n).length:=(List.getElem?_eq_some_iff.1 ho).1
      rw [List.getElem?_take_of_lt (by omega)] at ho; simpa using ho) (fun k _=>by simp) (fun k hk=>by rw [hol] at hk; simp [Nat.min_eq_left hk]) (fun k _=>by simp) hs.one (fun i j hij=>hmon (min i n) (min j n) (by omega) (Nat.min_le_right _ _)) (fun t v s h=>h)
  rw [hol] at r1
  simp only [Nat.zero_add] at r1 r2 r4
  have hbd : Belo w.heap.size w w.drew:=(Belo.refl _ _).drew
  have hokk0 : Okk w A β Hn Q (w.drew,(g0,[])):=⟨fun b hb=>by
      rcases hb with hb | hb
      . exact hS.cur.fin b hb
      . exact absurd hb (hg0 b),fun k k' b hk=>absurd hk (hg0k k b),fun b hb=>absurd hb (hg0 b),by simp [g0],fun k b blk hk=>absurd hk (hg0k k b),fun k hk=>by simp at hk⟩
  have hC0 : ∀ t,RF A β (look e t) (a.tmps.getD t undef) (w.drew,(g0,[])):=fun t=>((hS.env t).mono (Stp.below hbd) (fun b _ ha=>by
      rcases ha with ha | ha
      . exact ha
      . exact absurd ha (hg0 b))).more _ fun k b hk=>by
        rw [List.getElem?_append_left (List.getElem?_eq_some_iff.1 hk).1]; exact hk
  refine region_law (R:=RS w A β Hn Q) (U:=UU β.length (fun k=>S (min k n)) C) (F:=G) (C0:=fun t=>RF A β (look e t)) (s0:=(w.drew,(g0,[]))) rfl (g0,[]) rfl RS.refl RS.trans hS.size hB (fun c a w h=>h) (fun k=>⟨fun q h1 h2=>?_,fun x _ hm=>by simp at hm⟩) hC0 (fun t v s s' hR hr=>rep_step hR hr) (fun j oj hj hoj=>r2 j oj (hops j oj hj hoj) _ _ hokk0 hbd) (fun i oi x hi hoi hf hx=>?_) (fun a' s hR hsz hds hcat=>?_)
  . have : S (min (k + 1) n) <= Hn.length:=by rw [<- hS1]; exact hmon _ _ (Nat.min_le_right _ _) (Nat.le_refl _)
    have h2' : q < S (min (k + 1) n):=h2
    show (List.replicate Hn.length none)[q]? = some none
    rw [List.getElem?_replicate_of_lt (by omega)]
  . obtain ⟨hg,_,_,_,hap⟩:=freeB_spec hf
    refine r4 i oi x (hops i oi hi hoi) hg hx a _ fun t ht=>?_
    rcases cat_cases (ops:=l.toArray) G (fun t=>RF A β (look e t)) i t with ⟨j,oj,hj,hoj,hdj,_,_⟩ | ⟨_,hc⟩
    . rcases hap j oj hoj (by omega) with ⟨e,he,hb,hon⟩ | hapt
      . have:=back_spec hback hoj he hb
        omega
      . have hl : t ∈ oi.looksAt l.toArray:=List.mem_append_left _ (List.mem_filterMap.2 ⟨.tmp t,by simp [hx,Op.operands,ht],rfl⟩)
        exact absurd hl ((Oper.apart_spec hapt).2.2 t hdj)
    . rw [hc]; exact hC0 t
  . have hok:=hR.okk hokk0
    have hbw : Belo w.heap.size w s.1:=hbd.trans hR.below
    have hWRl:=hS.cur.rel
    have hQn : ∀ x ∈ Q,β.length <= x:=fun x hx=>(hs.newer x hx).resolve_left (by simp)
    have hnew : ∀ (k b : Nat),(unname Q (β ++ s.2.1))[k]? = some (some b) -> (k < β.length /\ β[k]? = some (some b)) \/ (β.length <= k /\ s.2.1[k - β.length]? = some (some b) /\ k - β.length ∉ s.2.2):=fun k b hk=>by
      obtain ⟨hkQ,hk⟩:=(unname_get Q _ k b).1 hk
      by_cases hl : k < β.length
      . rw [List.getElem?_append_left hl] at hk; exact .inl ⟨hl,hk⟩
      . rw [List.getElem?_append_right (by omega)] at hk
        refine .inr ⟨by omega,hk,fun hm=>hkQ ?_⟩
        have:=(hok.eat _ hm).1
        rwa [show β.length + (k - β.length) = k by omega] at this
    have hcur : Cur w A β M ks s.1 (AS A s) (unname Q (β ++ s.2.1)) (deadHs Q (H ++ Hn)):=by
      refine ⟨⟨by rw [unname_length,deadHs_length]; simp [hWRl.len,hok.len],fun k k' b hk hk'=>?_,fun k b hk=>?_,((wb_at hWRl hbw hok Hn (by simp)).unname Q).blk⟩,hok.fin,Frm.below hbw,fun b hb=>⟨fun ha=>?_,fun ha=>.inl ha⟩,fun k b hk hb=>?_,fun k hk _=>?_,by rw [unname_length]; simp⟩
      . rcases hnew k b hk with ⟨h1,h2⟩ | ⟨h1,h2,e1⟩ <;> rcases hnew k' b hk' with ⟨h3,h4⟩ | ⟨h3,h4,e2⟩
        . exact hWRl.inj k k' b h2 h4
        . have:=(hWRl.own k b h2).2
          have:=hok.new b (List.mem_of_getElem? h4)
          omega
        . have:=(hWRl.own k' b h4).2
          have:=hok.new b (List.mem_of_getElem? h2)
          omega
        . have:=hok.inj _ _ b h2 h4 e1 e2
          omega
      . have hA : AS A s b:=by
          rcases hnew k b hk with ⟨h1,h2⟩ | ⟨h1,h2,_⟩
          . exact .inl (hWRl.own k b h2).1
          . exact .inr (List.mem_of_getElem? h2)
        exact ⟨hA,hok.fin b hA⟩
      . rcases ha with ha | ha
        . exact ha
        . have:=hok.new b ha; omega
      . rcases hnew k b hk with ⟨h1,h2⟩ | ⟨h1,h2,_⟩
        . exact List.mem_of_getElem? h2
        . have:=hok.new b (List.mem_of_getElem? h2); omega
      . rw [unname_same Q _ k (fun hm=>by have:=hQn k hm; omega),List.getElem?_append_left hk]
    have henv0 : EnvRel s.1 (AS A s) (β ++ s.2.1) e' a'.tmps:=fun t=>by
      by_cases ht : t < N
      . exact r1 t _ s (hcat t ht)
      . have hu : a'.tmps.getD t undef = undef:=by
          have : ¬ t < a'.tmps.size:=by omega
          simp [Array.getD,this]
        refine r1 t _ s ?_
        rcases cat_cases (ops:=l.toArray) G (fun t=>RF A β (look e t)) n t with ⟨j,oj,hj,hoj,hdj,_,_⟩ | ⟨_,hc⟩
        . exact absurd ((dst_spec hdst hj hoj).1 t hdj) ht
        . rw [hc,hu]
          have h0:=hC0 t
          have hu0 : a.tmps.getD t undef = undef:=by
            have : ¬ t < a.tmps.size:=by rw [hS.size]; omega
            simp [Array.getD,this]
          rw [hu0] at h0
          exact rep_step hR h0
    have henv : EnvRel s.1 (AS A s) (unname Q (β ++ s.2.1)) (killEs Q e') a'.tmps:=EnvRel.kills (Stp.refl _ _) (fun _ _ h=>h) Q e' henv0 fun j b hj hb=>(unname_get Q _ j b).2 ⟨hj,hb⟩
    have hSta : Sta w0 A0 β0 M ks N y Y g (killEs Q e') (deadHs Q (H ++ Hn)) a' s.1 (AS A s) (unname Q (β ++ s.2.1)):=⟨hS.cur.trans hcur,henv,hsz,by rw [hds]; exact hS.marks.step hcur,fun h=>by rw [hds]; exact hS.nodef h,hY.stab _ _ _ _ _ _ _ _ hS.inv hcur⟩
    exact rvc_sound (r:=none) hY (l.drop n) (is.drop n) (hdrop n) _ _ g K _ _ _ _ hK hSta fun e2 H2 g2 a2 w2 A2 β2 hk hst=>hQ e2 H2 g2 a2 w2 A2 β2 hk hst
end
end
section
open Go.RowKit
section
variable {P : Program} {w0 : World} {A0 : Nat -> Prop} {β0 : List (Option Nat)} {M : Nat} {ks : List Nat} {w : World} {A : Nat -> Prop} {β : List (Option Nat)} {H : List Blk}
theorem leV1_rep {m : Nat} {x y : SV} {v : Value} (h : leV1 m x y) (hr : Rep w A β x v) : Rep w A β y v:=by
  unfold leV1 at h
  split at h
  . exact .any _ _
  . split at h
    . obtain ⟨_,_,rfl⟩:=h
      cases hr
      exact .oslZ _ _ _ _ _
    . subst h; exact hr
  . split at h
    . subst h
      cases hr
      exact .slcZ _ _ _
    . subst h; exact hr
  . subst h; exact hr
theorem leL1_spec {m : Nat} : ∀ (xs ys : List SV),leL1 m xs ys -> xs.length = ys.length /\ ∀ (j : Nat) (x y : SV),xs[j]? = some x -> ys[j]? = some y -> leV1 m x y
  | [],[],_=>⟨rfl,fun j x y hx _=>by simp at hx⟩
  | x :: xs, y :: ys, h => by
    obtain ⟨h1,h2⟩:=leL1_spec xs ys h.2
    refine ⟨by simp [h1],fun j x' y' hx hy=>?_⟩
    cases j with
    | zero=>simp at hx hy; subst hx hy; exact h.1
    | succ j=>exact h2 j x' y' (by simpa using hx) (by simpa using hy)
  | [],_::_,h=>h.elim
  | _::_,[],h=>h.elim
theorem leL2_spec {m : Nat} : ∀ (xs ys : List SV),leL2 m xs ys -> xs.length = ys.length /\ ∀ (j : Nat) (x y : SV),xs[j]? = some x -> ys[j]? = some y -> leV2 m x y
  | [],[],_=>⟨rfl,fun j x y hx _=>by simp at hx⟩
  | x :: xs, y :: ys, h => by
    obtain ⟨h1,h2⟩:=leL2_spec xs ys h.2
    refine ⟨by simp [h1],fun j x' y' hx hy=>?_⟩
    cases j with
    | zero=>simp at hx hy; subst hx hy; exact h.1
    | succ j=>exact h2 j x' y' (by simpa using hx) (by simpa using hy)
  | [],_::_,h=>h.elim
  | _::_,[],h=>h.elim
theorem leV2_rep {m : Nat} {x y : SV} {v : Value} (h : leV2 m x y) (hr : Rep w A β x v) : Rep w A β y v:=by
  unfold leV2 at h
  split at h
  . split at h
    . split at h
      . cases hr with
        | agg _ _ vs hl hf =>
          obtain ⟨h1,h2⟩:=leL1_spec _ _ h
          refine .agg _ _ _ (by omega) fun i f v hi hv=>?_
          have hlt:=(List.getElem?_eq_some_iff.1 hv).1
          rw [hl] at hlt
          have hx:=List.getElem?_eq_getElem hlt
          exact leV1_rep (h2 i _ f hx hi) (hf i _ v hx hv)
      . rw [<- h]; exact hr
    . subst h; exact hr
  . exact leV1_rep h hr
theorem leV_rep {m : Nat} {x y : SV} {v : Value} (h : leV m x y) (hr : Rep w A β x v) : Rep w A β y v:=by
  unfold leV at h
  split at h
  . split at h
    . split at h
      . cases hr with
        | tup _ _ vs hl hf =>
          obtain ⟨h1,h2⟩:=leL2_spec _ _ h
          refine .tup _ _ _ (by omega) fun i f v hi hv=>?_
          have hlt:=(List.getElem?_eq_some_iff.1 hv).1
          rw [hl] at hlt
          have hx:=List.getElem?_eq_getElem hlt
          exact leV2_rep (h2 i _ f hx hi) (hf i _ v hx hv)
      . rw [<- h]; exact hr
    . subst h; exact hr
  . exact leV2_rep h hr
theorem leE_rep {m : Nat} {e : Env} {tmps : Array Value} (hr : EnvRel w A β e tmps) : ∀ (e' : Env),leE m e e' -> EnvRel w A β e' tmps
  | [],_,t=>.any _ _
  | (k, y) :: e', h, t => by
    simp only [look]
    split
    . rename_i hk; subst hk; exact leV_rep h.1 (hr k)
    . exact leE_rep hr e' h.2 t
theorem leL_spec {m : Nat} : ∀ (xs ys : List SV),leL m xs ys -> xs.length = ys.length /\ ∀ (j : Nat) (x y : SV),xs[j]? = some x -> ys[j]? = some y -> leV m x y
  | [],[],_=>⟨rfl,fun j x y h=>by simp at h⟩
  | x :: xs, y :: ys, h => by
    obtain ⟨h1,h2⟩:=leL_spec xs ys h.2
    refine ⟨by simp [h1],fun j x' y' hx hy=>?_⟩
    cases j with
    | zero=>simp at hx hy; subst hx hy; exact h.1
    | succ j=>exact h2 j x' y' (by simpa using hx) (by simpa using hy)
  | [],y::ys,h=>by simp [leL] at h
  | x::xs,[],h=>by simp [leL] at h
theorem leH_spec {m : Nat} : ∀ (H H' : List Blk),leH m H H' -> H.length <= H'.length /\ ∀ (k : Nat) (b b' : Blk),H[k]? = some b -> H'[k]? = some b' -> leB m b b'
  | [],[],_=>⟨Nat.le_refl _,fun j x y h=>by simp at h⟩
  | x :: xs, y :: ys, h => by
    obtain ⟨h1,h2⟩:=leH_spec xs ys h.2
    refine ⟨by simp; exact h1,fun j x' y' hx hy=>?_⟩
    cases j with
    | zero=>simp at hx hy; subst hx hy; exact h.1
    | succ j=>exact h2 j x' y' (by simpa using hx) (by simpa using hy)
  | [],y::ys,h=>⟨by simp,fun j x y h=>by simp at h⟩
  | x::xs,[],h=>by simp [leH] at h
theorem leB_rel {m : Nat} {b : Nat} : ∀ {x y : Blk},leB m x y -> BlkRel w A β (some b) x -> BlkRel w A β (some b) y
  | _,.dead,_,_=>trivial
  | _,.shut _ _,h,_=>h.elim
  | x, .arr wd ys, h, hr => by
    have : x = .arr wd ys:=h
    subst this; exact hr
  | .vars xs, .vars ys, h, hr => by
    obtain ⟨h1,h2⟩:=leL_spec _ _ (show leL m xs ys from h)
    obtain ⟨cs,T,hc,hl,hrep⟩:=hr
    refine ⟨cs,T,hc,by omega,fun j c v hj hv=>?_⟩
    have hjl:=(List.getElem?_eq_some_iff.1 hv).1
    obtain ⟨x,hx⟩ : ∃ x,xs[j]? = some x:=⟨_,List.getElem?_eq_getElem (by omega)⟩
    exact leV_rep (h2 j x c hx hj) (hrep j x v hx hv)
  | .dead,.vars ys,h,_=>h.elim
  | .shut _ _,.vars ys,h,_=>h.elim
  | .arr _ _,.vars ys,h,_=>h.elim
end
end
section
open Go.RowKit
section
variable {γ : Type} {P : Program} {ops : Array Oper} {R : World × γ -> World × γ -> Prop} {U : Nat -> World × γ -> Prop} {s0 : World × γ} {md : Region.Mode} {Q' : Exit -> Act -> World -> Prop} {m : Nat}
def Region.sinkL (md : Region.Mode) (ops : Array Oper) (L : List Nat) (n : Nat) : Bool :=
  (List.range n).all fun i=>L.contains i || (List.range (n + 1)).any fun j=>decide (i < j) && !L.contains j && Region.waits md ops j i
def Region.lateL (md : Region.Mode) (ops : Array Oper) (L : List Nat) (n n1 : Nat) : Bool :=
  decide (n1 = ops.size) || L.all fun i=>(List.range (n1 + 1)).any fun j=>decide (i < j) && (L.contains j || decide (n <= j)) && Region.waits md ops j i
def Region.apartL (ops : Array Oper) (L : List Nat) (n n1 : Nat) : Bool :=
  L.all fun i => match ops[i]? with
    | some oi => oi.guard.isNone && oi.dst.isSome && ((List.range n1).all fun j => decide (j < i) || match ops[j]? with
      | some oj => match oj.dst with
        | some d=>!(oi.looksAt ops).contains d && (decide (j < n) || !(oi.dst == some d))
        | none=>true
      | none=>true)
    | none=>false
def Region.lateB (ops : Array Oper) (n n1 : Nat) (L : List Nat) (N : Nat) : Bool :=
  Region.noSelect ops && Region.pairB .any ops && Region.backB .any ops && Region.dstB ops n N && decide (n < n1) && decide (n1 <= ops.size) && Region.chainE .any ops n &&
    Region.sinkL .any ops L n && Region.lateL .any ops L n n1 && Region.apartL ops L n n1 && L.all (fun i=>decide (i < n)) &&
    (decide (n1 = ops.size) || Region.seqB .any ops (ops.size - n1) n1 (Array.replicate n1 true ++ Array.replicate (ops.size - n1) false))
def Closed (md : Region.Mode) (ops : Array Oper) (listed : Array Bool) : Prop :=
  ∀ (j : Nat) (oj : Oper),ops[j]? = some oj -> listed.getD j false = true -> ∀ e ∈ oj.after,Region.binds md e = true -> listed.getD e.on false = true
theorem Closed.set {listed : Array Bool} {i : Nat} (h : Closed md ops listed) (hi : i ∈ Region.ready md ops listed) : Closed md ops (listed.setIfInBounds i true):=by
  obtain ⟨_,oi,hoi,hall⟩:=mem_ready.1 hi
  intro j oj hj hl e he hb
  by_cases hij : i = j
  . subst hij
    rw [hoi] at hj
    obtain rfl:=Option.some.inj hj
    exact getD_set_true (hall e he hb)
  . rw [getD_set_ne false hij] at hl
    exact getD_set_true (h j oj hj hl e he hb)
theorem unlisted_of_waits {listed : Array Bool} {i j : Nat} (hc : Closed md ops listed) (hw : Region.waits md ops j i = true) (hun : listed.getD i false = false) : listed.getD j false = false:=by
  obtain ⟨oj,hoj,e,he,hb,hon⟩:=waits_spec hw
  cases hl : listed.getD j false with
  | false=>rfl
  | true =>
    have:=hc j oj hoj hl e he hb
    rw [hon,hun] at this; cases this
theorem not_ready_of_waits {listed : Array Bool} {i j : Nat} (hw : Region.waits md ops j i = true) (hun : listed.getD i false = false) : j ∉ Region.ready md ops listed:=fun hr=>by
  obtain ⟨_,oj,hoj,hall⟩:=mem_ready.1 hr
  obtain ⟨oj',hoj',e,he,hb,hon⟩:=waits_spec hw
  rw [hoj] at hoj'
  obtain rfl:=Option.some.inj hoj'
  have:=hall e he hb
  rw [hon,hun] at this; cases this
theorem tail_waitsL {L : List Nat} {n : Nat} {listed : Array Bool} (hs : Region.sinkL md ops L n = true) (hc : Region.chainE md ops n = true) (inv : HeadInv md ops n listed) :
    ∀ (d i : Nat),n - i = d -> i < n -> i ∉ L -> listed.getD i false = false -> ∀ t,n <= t -> t ∉ Region.ready md ops listed:=by
  intro d
  induction d using Nat.strongRecOn with
  | _ d ih =>
    intro i hd hi hL hun t ht hr
    have hts : t < ops.size:=by
      obtain ⟨_,ot,hot,_⟩:=mem_ready.1 hr
      exact (Array.getElem?_eq_some_iff.1 hot).1
    rcases Nat.lt_or_ge n t with hlt | hge
    . have h1:=List.all_eq_true.1 hc t (List.mem_range.2 hts)
      simp only [Bool.or_eq_true,decide_eq_true_eq] at h1
      rcases h1 with h1 | h1
      . omega
      . exact not_ready_of_waits h1 (getD_both (inv.tail (t - 1) (by omega) (by omega))) hr
    . have htn : t = n:=by omega
      subst htn
      have h1:=List.all_eq_true.1 hs i (List.mem_range.2 hi)
      simp only [Bool.or_eq_true,List.any_eq_true,List.mem_range,Bool.and_eq_true,decide_eq_true_eq,Bool.not_eq_true',List.contains_iff_mem] at h1
      rcases h1 with h1 | ⟨j,hj,⟨hij,hjL⟩,hw⟩
      . exact hL h1
      . have hjL : j ∉ L:=by simpa using hjL
        have hjun:=unlisted_of_waits inv.closed hw hun
        rcases Nat.lt_or_ge j t with hjt | hjt
        . exact ih (t - j) (by omega) j rfl hjt hjL hjun t (Nat.le_refl _) hr
        . have : j = t:=by omega
          subst this
          exact not_ready_of_waits hw hun hr
theorem left_pos {listed : Array Bool} {i : Nat} (hi : i < listed.size) (h : listed.getD i false = false) : 0 < left listed:=by
  unfold left
  apply List.length_pos_of_mem (a:=false)
  refine List.mem_filter.2 ⟨?_,rfl⟩
  have : listed[i] = false:=by simpa [Array.getD,hi] using h
  rw [<- this]; simp
theorem wpAny_early {F : Nat → Fact γ} {C0 : Tmp → Fact γ} {a0 : Act} {n N : Nat} {L : List Nat} (hrf : ∀ s, R s s) (htr : ∀ a b c, R a b → R b c → R a c)
    (hpair : Region.pairB md ops = true) (hback : Region.backB md ops = true) (hdst : Region.dstB ops n N = true) (hC0 : ∀ t,C0 t (a0.tmps.getD t undef) s0) (hCs : ∀ t,Stable R (C0 t))
    (hn : n < ops.size) (hsink : Region.sinkL md ops L n = true) (hchain : Region.chainE md ops n = true)
    (hO : ∀ (j : Nat) (oj : Oper),j < n -> ops[j]? = some oj -> Obl P ops R U s0 N a0.defers (Cat ops F C0 j) j oj (F j))
    (hB : ∀ (fuel : Nat) (listed : Array Bool) (a : Act) (s : World × γ),left listed = fuel -> (∀ i,i < n -> i ∉ L -> listed.getD i false = true) -> Inv md ops R U s0 F a0 n N listed a s -> wpAnyIn Fence.wide m P md ops Q' fuel listed a s.1) :
    ∀ (fuel : Nat) (listed : Array Bool) (a : Act) (s : World × γ),left listed = fuel -> Inv md ops R U s0 F a0 n N listed a s -> wpAnyIn Fence.wide m P md ops Q' fuel listed a s.1:=by
  intro fuel
  induction fuel with
  | zero =>
    intro listed a s hc inv
    exact hB 0 listed a s hc (fun i hi _=>by
      cases hl : listed.getD i false with
      | true=>rfl
      | false =>
        have:=left_pos (by rw [inv.head.size]; omega) hl
        omega) inv
  | succ fuel ih =>
    intro listed a s hc inv
    by_cases hall : ∀ i,i < n -> i ∉ L -> listed.getD i false = true
    . exact hB _ listed a s hc hall inv
    . obtain ⟨i,hi,hL,hun⟩ : ∃ i,i < n /\ i ∉ L /\ listed.getD i false = false:=by
        refine Classical.byContradiction fun hno=>hall fun i hi hL=>?_
        cases hl : listed.getD i false with
        | true=>rfl
        | false=>exact absurd ⟨i,hi,hL,hl⟩ hno
      have hnotail:=tail_waitsL hsink hchain inv.head (n - i) i rfl hi hL hun
      refine ⟨fun hr=>?_,fun j hj=>?_⟩
      . have:=ready_nil_all hback inv.head.size hr i (by omega)
        rw [hun] at this; cases this
      . obtain ⟨hjun,oj,hoj,_⟩:=mem_ready.1 hj
        have hjn : j < n:=by
          rcases Nat.lt_or_ge j n with h | h
          . exact h
          . exact absurd hj (hnotail j h)
        exact Inv.wpOp htr hpair hdst hC0 hCs hO inv hjn hoj hj hrf fun a' s' inv'=>ih _ a' s' (count_step' hjun _ hc) inv'
theorem left_split {listed : Array Bool} {n1 N : Nat} (h : listed = Array.replicate n1 true ++ Array.replicate (N - n1) false) : left listed = N - n1:=by
  subst h
  unfold left
  simp
theorem wpAny_late {l : List Oper} (hl : ops = l.toArray) {n n1 : Nat} {L : List Nat} {X : Nat -> Array Bool -> Act -> World -> Prop} (hback : Region.backB md ops = true) (hn1 : n1 <= ops.size) (hchain : Region.chainE md ops n = true) (hlate : Region.lateL md ops L n n1 = true)
    (hseq : n1 = ops.size \/ Region.seqB md ops (ops.size - n1) n1 (Array.replicate n1 true ++ Array.replicate (ops.size - n1) false) = true) (hLn : ∀ i ∈ L,i < n)
    (x1 : ∀ (t : Nat) (listed : Array Bool) (a : Act) (w : World) (j : Nat) (oj : Oper),X t listed a w -> n <= t -> t <= n1 -> j ∈ L -> ops[j]? = some oj -> j ∈ Region.ready md ops listed -> wpOpIn Fence.wide m P ops Q' j (X t (listed.setIfInBounds j true)) a w)
    (x2 : ∀ (t : Nat) (listed : Array Bool) (a : Act) (w : World) (ot : Oper),X t listed a w -> n <= t -> t < n1 -> ops[t]? = some ot -> wpOpIn Fence.wide m P ops Q' t (X (t + 1) (listed.setIfInBounds t true)) a w)
    (x3 : ∀ (listed : Array Bool) (a : Act) (w : World),X n1 listed a w -> (∀ i,i < n -> listed.getD i false = true) -> wpListIn Fence.wide m P ops Q' (l.drop n1) a w) :
    ∀ (fuel t : Nat) (listed : Array Bool) (a : Act) (w : World), left listed = fuel → n ≤ t → t ≤ n1 → listed.size = ops.size → Closed md ops listed → (∀ i, i < n → i ∉ L → listed.getD i false = true) → (∀ j, n ≤ j → j < ops.size → listed.getD j false = decide (j < t)) → X t listed a w →
      wpAnyIn Fence.wide m P md ops Q' fuel listed a w:=by
  -- all is done that was to be done ahead of the rest
  have fin : ∀ (fuel : Nat) (listed : Array Bool) (a : Act) (w : World),left listed = fuel -> n <= n1 -> listed.size = ops.size -> (∀ i,i < n -> listed.getD i false = true) -> (∀ j,n <= j -> j < ops.size -> listed.getD j false = decide (j < n1)) -> X n1 listed a w -> wpAnyIn Fence.wide m P md ops Q' fuel listed a w:=by
    intro fuel listed a w hfuel hnn hsz hall htail hX
    have e : listed = Array.replicate n1 true ++ Array.replicate (ops.size - n1) false:=by
      refine Array.ext (by simp [hsz]; omega) fun i hi hi'=>?_
      have : listed.getD i false = decide (i < n1):=by
        by_cases hin : i < n
        . rw [hall i hin]; simp; omega
        . exact htail i (by omega) (by omega)
      simp only [Array.getD,hi,dif_pos] at this
      rw [Array.getElem_append]
      by_cases hin : i < n1
      . simp [hin] at this ⊢
        exact this
      . simp [hin] at this ⊢
        exact this
    have hdl : (l.drop n1).length = ops.size - n1:=by rw [hl]; simp
    have hf : fuel = (l.drop n1).length:=by rw [<- hfuel,left_split e,hdl]
    rw [hf,e]
    refine wpAnyIn_of_seq (md:=md) (Q':=Q') (l.drop n1) n1 _ a w (fun j=>by rw [hl]; simp [List.getElem?_drop]) ?_ (x3 listed a w hX hall)
    rw [hdl]
    rcases hseq with h | h
    . rw [h,Nat.sub_self]
      have hr : Region.ready md ops (Array.replicate ops.size true ++ Array.replicate 0 false) = []:=by
        cases hrr : Region.ready md ops (Array.replicate ops.size true ++ Array.replicate 0 false) with
        | nil=>rfl
        | cons x xs =>
          have hx : x ∈ Region.ready md ops (Array.replicate ops.size true ++ Array.replicate 0 false):=by rw [hrr]; simp
          obtain ⟨hun,ox,hox,_⟩:=mem_ready.1 hx
          have hlt:=(Array.getElem?_eq_some_iff.1 hox).1
          simp [Array.getD,hlt] at hun
      simpa [Region.seqB] using hr
    . exact h
  intro fuel
  induction fuel with
  | zero =>
    intro t listed a w hfuel ht ht1 hsz hcl hearly htail hX
    have hlisted : ∀ i,i < ops.size -> listed.getD i false = true:=fun i hi=>by
      cases hl : listed.getD i false with
      | true=>rfl
      | false=>have:=left_pos (by rw [hsz]; exact hi) hl; omega
    have htn : t = n1:=by
      rcases Nat.lt_or_ge t n1 with h | h
      . have h1:=htail t ht (by omega)
        rw [hlisted t (by omega)] at h1
        simp at h1
      . omega
    subst htn
    exact fin 0 listed a w hfuel ht hsz (fun i hi=>hlisted i (by omega)) htail hX
  | succ fuel ih =>
    intro t listed a w hfuel ht ht1 hsz hcl hearly htail hX
    by_cases hdone : t = n1 /\ ∀ i,i < n -> listed.getD i false = true
    . obtain ⟨rfl,hall⟩:=hdone
      exact fin _ listed a w hfuel ht hsz hall htail hX
    · -- something is left
      have hex : ∃ i,i < ops.size /\ listed.getD i false = false:=by
        by_cases h : t = n1
        . have : ¬ ∀ i,i < n -> listed.getD i false = true:=fun h'=>hdone ⟨h,h'⟩
          refine Classical.byContradiction fun hno=>this fun i hi=>?_
          cases hl : listed.getD i false with
          | true=>rfl
          | false=>exact absurd ⟨i,by omega,hl⟩ hno
        . exact ⟨t,by omega,by rw [htail t ht (by omega)]; simp⟩
      obtain ⟨i0,hi0,hun0⟩:=hex
      refine ⟨fun hr=>?_,fun j hj=>?_⟩
      . have:=ready_nil_all hback hsz hr i0 hi0
        rw [hun0] at this; cases this
      . obtain ⟨hjun,oj,hoj,_⟩:=mem_ready.1 hj
        have hjs : j < ops.size:=(Array.getElem?_eq_some_iff.1 hoj).1
        have hjun':=getD_both hjun
        have hsz' : (listed.setIfInBounds j true).size = ops.size:=by simp [hsz]
        rcases Nat.lt_or_ge j n with hjn | hjn
        · -- a late one
          have hjL : j ∈ L:=Classical.byContradiction fun h=>by rw [hearly j hjn h] at hjun'; cases hjun'
          refine wpOpIn_mono (fun a' w' hX'=>ih t _ a' w' (count_step' hjun _ hfuel) ht ht1 hsz' (hcl.set hj) (fun i hi hiL=>getD_set_true (hearly i hi hiL)) (fun k hk hks=>?_) hX') (x1 t listed a w j oj hX ht ht1 hjL hoj hj)
          rw [getD_set_ne false (by omega)]; exact htail k hk hks
        . have hjt : t <= j:=by
            rw [htail j hjn hjs] at hjun'
            simpa using hjun'
          have hjt' : j = t:=by
            rcases Nat.lt_or_ge t j with h | h
            . have h1:=List.all_eq_true.1 hchain j (List.mem_range.2 hjs)
              simp only [Bool.or_eq_true,decide_eq_true_eq] at h1
              rcases h1 with h1 | h1
              . omega
              . exact absurd hj (not_ready_of_waits h1 (by rw [htail (j - 1) (by omega) (by omega)]; simp; omega))
            . omega
          subst hjt'
          have hjn1 : j < n1:=by
            rcases Nat.lt_or_ge j n1 with h | h
            . exact h
            · -- the n1-th waits for the late ones
              exfalso
              have hjn1 : j = n1:=by omega
              subst hjn1
              have hnot : ¬ ∀ i,i < n -> listed.getD i false = true:=fun h'=>hdone ⟨rfl,h'⟩
              obtain ⟨i,hi,hun⟩ : ∃ i,i < n /\ listed.getD i false = false:=by
                refine Classical.byContradiction fun hno=>hnot fun i hi=>?_
                cases hl : listed.getD i false with
                | true=>rfl
                | false=>exact absurd ⟨i,hi,hl⟩ hno
              have hlate' : ∀ i ∈ L,∃ k,k < j + 1 /\ i < k /\ (k ∈ L \/ n <= k) /\ Region.waits md ops k i = true:=fun i hiL=>by
                simp only [Region.lateL,Bool.or_eq_true,decide_eq_true_eq] at hlate
                rcases hlate with h | h
                . omega
                . have:=List.all_eq_true.1 h i hiL
                  simp only [List.any_eq_true,List.mem_range,Bool.and_eq_true,Bool.or_eq_true,decide_eq_true_eq,List.contains_iff_mem] at this
                  obtain ⟨k,h1,⟨h2,h3⟩,h4⟩:=this
                  exact ⟨k,h1,h2,h3,h4⟩
              have main : ∀ (d i : Nat),j - i = d -> i ∈ L -> listed.getD i false = false -> False:=by
                intro d
                induction d using Nat.strongRecOn with
                | _ d ihd =>
                  intro i hd hiL hun
                  obtain ⟨k,h1,h2,h3,h4⟩:=hlate' i hiL
                  have hkun:=unlisted_of_waits hcl h4 hun
                  rcases h3 with h3 | h3
                  . exact ihd (j - k) (by have:=hLn i hiL; omega) k rfl h3 hkun
                  . have hks : k < ops.size:=by omega
                    rw [htail k h3 hks] at hkun
                    have : k = j:=by simp at hkun; omega
                    subst this
                    exact not_ready_of_waits h4 hun hj
              exact main (j - i) i rfl (Classical.byContradiction fun h=>by rw [hearly i hi h] at hun; cases hun) hun
          refine wpOpIn_mono (fun a' w' hX'=>ih (j + 1) _ a' w' (count_step' hjun _ hfuel) (by omega) (by omega) hsz' (hcl.set hj) (fun i hi hiL=>getD_set_true (hearly i hi hiL)) (fun k hk hks=>?_) hX') (x2 j listed a w oj hX hjn hjn1 hoj)
          by_cases hkj : j = k
          . subst hkj
            simp [Array.getD,hsz,hjs]
          . rw [getD_set_ne false hkj,htail k hk hks]
            simp; omega
end
end
section
open Go.RowKit
section
variable {P : Program} {w0 : World} {A0 : Nat -> Prop} {β0 : List (Option Nat)} {M : Nat} {ks : List Nat} {w : World} {A : Nat -> Prop} {β : List (Option Nat)} {H : List Blk}
theorem leR_spec : ∀ (H Hr : List Blk),leR H Hr -> ∀ (k : Nat) (y : Blk),Hr[k]? = some y -> ∃ x,H[k]? = some x /\ leB 0 x y
  | _,[],_,k,y,h=>by simp at h
  | x :: xs, y :: ys, h, k, z, hz => by
    cases k with
    | zero=>simp at hz; subst hz; exact ⟨x,rfl,h.1⟩
    | succ k=>simpa using leR_spec xs ys h.2 k z (by simpa using hz)
  | [],_::_,h,_,_,_=>h.elim
theorem WB.less {Hr : List Blk} (h : WB w A β H) (hr : leR H Hr) : WB w A β Hr:=⟨fun k o y ho hy=>by
  cases o with
  | none=>trivial
  | some b =>
    obtain ⟨x,hx,hl⟩:=leR_spec H Hr hr k y hy
    exact leB_rel hl (h.blk k (some b) x ho hx)⟩
theorem lvc_spec : ∀ {lt : List Ins} {e : Env} {Hr : List Blk},lvc P lt e Hr -> ∀ i ∈ lt,∃ t,i.dst = some t /\ pop P i.op e Hr fun sv=>look e t = sv
  | [],_,_,_,i,hi=>by simp at hi
  | x :: lt, e, Hr, h, i, hi => by
    rcases List.mem_cons.1 hi with rfl | hi
    . have h1:=h.1
      split at h1
      . rename_i t ht; exact ⟨t,ht,h1⟩
      . exact h1.elim
    . exact lvc_spec h.2 i hi
theorem look_mask : ∀ (lt : List Ins) (e : Env) (t : Nat),look (maskE lt e) t = if (∃ i ∈ lt,i.dst = some t) then .any else look e t
  | [],e,t=>by simp [maskE]
  | i :: lt, e, t => by
    have ih:=look_mask lt e t
    unfold maskE
    cases hd : i.dst with
    | none =>
      rw [ih]
      congr 1
      simp [hd]
    | some d =>
      by_cases hdt : d = t
      . subst hdt; simp [look,hd]
      . simp only [look,if_neg hdt,ih]
        congr 1
        simp [hd,hdt]
theorem look_rest : ∀ (lt : List Ins) (e e2 : Env) (t : Nat),look (restE lt e e2) t = if (∃ i ∈ lt,i.dst = some t) then look e t else look e2 t
  | [],e,e2,t=>by simp [restE]
  | i :: lt, e, e2, t => by
    have ih:=look_rest lt e e2 t
    unfold restE
    cases hd : i.dst with
    | none =>
      rw [ih]
      congr 1
      simp [hd]
    | some d =>
      by_cases hdt : d = t
      . subst hdt; simp [look,hd]
      . simp only [look,if_neg hdt,ih]
        congr 1
        simp [hd,hdt]
theorem plain_env {op : IOp} {e : Env} {K : SV -> Env -> List Blk -> Prop} (hp : op.plain = true) (h : xop P M ks op e H K) (M' : Nat) (ks' : List Nat) :
    (∃ f : SV -> Prop,(pop P op e H f) /\ ∀ sv,f sv -> K sv e H) \/ ∃ s x v,op = .st s x v /\ xop P M' ks' (.st s x v) e H fun sv e2 H2=>K sv e2 H2 /\ e2 = e:=by
  cases op with
  | st s x v =>
    refine .inr ⟨s,x,v,rfl,?_⟩
    simp only [xop] at h ⊢
    split at h
    . rename_i k wd i j hx
      split at h
      . rename_i fs hf
        refine ⟨h.1,h.2.1,?_⟩
        have h2:=h.2.2
        split at h2
        . rename_i cells hc
          exact ⟨h2.1,h2.2,trivial⟩
        . rename_i wd' xs hc
          obtain ⟨h3,h4,h5,y,h6,h7⟩:=h2
          exact ⟨h3,h4,h5,y,h6,h7,trivial⟩
        . exact h2.elim
      . exact h.elim
    . exact h.elim
  | _ => first
    | exact .inl ⟨fun sv=>K sv e H,h,fun _ h=>h⟩
    | (exfalso; simp [IOp.plain,IOp.reads] at hp)
theorem CurX.anew {B0 : Nat -> Prop} {M' : Nat} {ks' : List Nat} (h : CurX B0 w0 A0 β0 M ks w A β H) : Cur w A β M' ks' w A β H:=Cur.start h.rel h.fin
theorem wanted_none {ops : Array Oper} {o : Oper} {tmps : Array Value} (h : o.guard = none) : Region.wanted o (yielded ops tmps) = true:=by simp [Region.wanted,h]
/-! ### Names whose slices may move -/
mutual
theorem kill_idem (k : Nat) : ∀ x : SV,(x.kill k).kill k = x.kill k
  | .any=>rfl
  | .int _ _=>rfl
  | .bool _=>rfl
  | .str _=>rfl
  | .raw _=>rfl
  | .anyb=>rfl
  | .nils=>rfl
  | .slc _ _=>rfl
  | .box _ _=>rfl
  | .mth _ _=>rfl
  | .ptr k' wd i j => by
    by_cases h : k' = k <;> simp [SV.kill,h]
  | .osl k' wd i n => by
    by_cases h : k' = k <;> simp [SV.kill,h]
  | .agg fs=>by simp only [SV.kill,kill_idemL k fs]
  | .tup fs=>by simp only [SV.kill,kill_idemL k fs]
  | .fn f fs=>by simp only [SV.kill,kill_idemL k fs]
theorem kill_idemL (k : Nat) : ∀ fs : List SV,SV.kill.killL k (SV.kill.killL k fs) = SV.kill.killL k fs
  | []=>rfl
  | f::fs=>by simp only [SV.kill.killL,kill_idem k f,kill_idemL k fs]
end
mutual
theorem kill_comm (j k : Nat) : ∀ x : SV,(x.kill j).kill k = (x.kill k).kill j
  | .any=>rfl
  | .int _ _=>rfl
  | .bool _=>rfl
  | .str _=>rfl
  | .raw _=>rfl
  | .anyb=>rfl
  | .nils=>rfl
  | .slc _ _=>rfl
  | .box _ _=>rfl
  | .mth _ _=>rfl
  | .ptr k' wd i l => by
    by_cases h : k' = j <;> by_cases h' : k' = k <;> simp [SV.kill,h,h'] <;> (try split) <;> simp [SV.kill, *]
  | .osl k' wd i n => by
    by_cases h : k' = j <;> by_cases h' : k' = k <;> simp [SV.kill,h,h'] <;> (try split) <;> simp [SV.kill, *]
  | .agg fs=>by simp only [SV.kill,kill_commL j k fs]
  | .tup fs=>by simp only [SV.kill,kill_commL j k fs]
  | .fn f fs=>by simp only [SV.kill,kill_commL j k fs]
theorem kill_commL (j k : Nat) : ∀ fs : List SV,SV.kill.killL k (SV.kill.killL j fs) = SV.kill.killL j (SV.kill.killL k fs)
  | []=>rfl
  | f::fs=>by simp only [SV.kill.killL,kill_comm j k f,kill_commL j k fs]
end
def killVs : List Nat -> SV -> SV
  | [],x=>x
  | k::ks,x=>killVs ks (x.kill k)
theorem look_kills : ∀ (ks : List Nat) (e : Env) (t : Nat),look (killEs ks e) t = killVs ks (look e t)
  | [],_,_=>rfl
  | k :: ks, e, t => by
    show look (killEs ks (killE k e)) t = killVs ks ((look e t).kill k)
    rw [look_kills ks,look_kill]
theorem killVs_kill (k : Nat) : ∀ (ks : List Nat) (x : SV),killVs ks (x.kill k) = (killVs ks x).kill k
  | [],_=>rfl
  | j :: ks, x => by
    show killVs ks ((x.kill k).kill j) = (killVs ks (x.kill j)).kill k
    rw [kill_comm,killVs_kill k ks]
theorem killVs_idem : ∀ (ks : List Nat) (x : SV),killVs ks (killVs ks x) = killVs ks x
  | [],_=>rfl
  | k :: ks, x => by
    show killVs ks ((killVs ks (x.kill k)).kill k) = killVs ks (x.kill k)
    rw [<- killVs_kill,kill_idem,killVs_idem ks]
theorem Rep.kills {w w' : World} {A A' : Nat -> Prop} {β γ : List (Option Nat)} (s : Stp A w w') (hA : ∀ b,b < w.heap.size -> A' b -> A b) {ks : List Nat} {x : SV} {v : Value} (h : Rep w A β x v) (hg : ∀ (j b : Nat),j ∉ ks -> β[j]? = some (some b) -> γ[j]? = some (some b)) : Rep w' A' γ (killVs ks x) v:=by
  have h1 : EnvRel w A β [(0,x)] #[v]:=fun j=>by
    by_cases hj : 0 = j
    . subst hj; exact h
    . simp only [look,if_neg hj]; exact .any _ _
  have h2:=EnvRel.kills s hA ks _ h1 hg 0
  rw [look_kills] at h2
  exact h2
theorem afterA_plain {lt : List Ins} {op : IOp} {e : Env} (hp : op.plain = true) : afterA lt op e = e:=by
  cases op <;> first | rfl | (simp [IOp.plain,IOp.reads] at hp)
theorem amid_cases {op : IOp} (h : op.amid = true) : op.plain = true \/ ∃ wd bytes x y,op = .ap wd bytes x y:=by
  cases op <;> first | exact .inr ⟨_,_,_,_,rfl⟩ | exact .inl h
theorem Cur.widen {w2 : World} {A2 : Nat -> Prop} {β2 : List (Option Nat)} {H2 : List Blk} {M' M'' : Nat} {js js' : List Nat} (h : Cur w A β M' js w2 A2 β2 H2) (hk : ∀ k,k < β.length -> (M' <= k \/ k ∈ js) -> (M'' <= k \/ k ∈ js')) : Cur w A β M'' js' w2 A2 β2 H2 :=
  ⟨h.rel,h.fin,h.frm,h.agree,h.fresh,fun k hk1 hn=>h.same k hk1 fun h'=>hn (hk k hk1 h'),h.more⟩
theorem midK_any {lt mid : List Ins} {b : Bool} {e : Env} {K : Env -> List Blk -> Prop} (h : midK P M ks lt mid b e H K) : ∃ Hr js,(∀ j ∈ js,M <= j \/ j ∈ ks) /\ leR H Hr /\ lvc P lt (killEs js e) Hr /\ mvc P js lt mid (maskE lt e) H Hr fun e2 H2=>K (restE lt (killEs js e) e2) H2:=by
  cases b with
  | true =>
    obtain ⟨Hr,h1,h2,h3⟩:=h
    exact ⟨Hr,[],fun j hj=>by simp at hj,h1,h2,h3⟩
  | false=>exact h
theorem drawL_sound (hm : P.follows .mixedOrders = true) {y : Yv} {Y : Ysem} (hY : Yok P A0 β0 M ks y Y) {m id n n1 N : Nat} {L : List Nat} {r : Option Nat} {l : List Oper} {is : List Ins} {e : Env} {g : Option Nat} {K : Env → List Blk → Option Nat → Prop} {Q : Exit → Act → World → Prop} {a : Act} (his : l.mapM (cIns P l.toArray N) = some is)
    (hB : (Region.lateB l.toArray n n1 L N && ((is.drop n).take (n1 - n)).all (fun x=>x.op.amid && x.guard.isNone)) = true)
    (h : dvc P H.length (is.take n) e H [] fun e H Q=>endK Q e H fun e H=>midK P M ks (L.filterMap fun i=>is[i]?) ((is.drop n).take (n1 - n)) (((is.drop n).take (n1 - n)).all fun x=>x.op.plain) e H fun e2 H2=>rvc P M ks y (is.drop n1) e2 H2 g K) (hS : Sta w0 A0 β0 M ks N y Y g e H a w A β)
    (hQ : ∀ e' H' g' a' w' A' β',K e' H' g' -> Sta w0 A0 β0 M ks N y Y g' e' H' a' w' A' β' -> Q .normal a' w') : (Code.region id l.toArray true).wpIn (Fr r) m P Q a w:=by
  obtain ⟨hlen,htake,hdrop,hall⟩:=mapM_spec his
  refine wpIn_mono (Q:=fun ex a w=>match ex with | .normal=>Q .normal a w | _=>False) (wpIn_region_any hm (wpAnyIn_round (fun i o ho=>?_) _ _ _ _ ?_)) (fun ex a w hq=>by cases ex <;> first | exact hq | exact hq.elim)
  . obtain ⟨i',hi'⟩:=hall o (by simpa using List.mem_of_getElem? (by simpa using ho))
    exact cop_defer (cIns_spec hi').1
  simp only [Bool.and_eq_true,Region.lateB,decide_eq_true_eq,Bool.or_eq_true] at hB
  obtain ⟨⟨⟨⟨⟨⟨⟨⟨⟨⟨⟨⟨hsel,hpair⟩,hback⟩,hdst⟩,hnn⟩,hn1s⟩,hchain⟩,hsink⟩,hlate⟩,hapart⟩,hLn⟩,hseq⟩,hplain⟩:=hB
  have hn1l : n1 <= l.length:=by simpa using hn1s
  have hLn : ∀ i ∈ L,i < n:=fun i hi=>by simpa using List.all_eq_true.1 hLn i hi
  have hol : (l.take n).length = n:=by simp; omega
  have hops : ∀ (k : Nat) (o : Oper),k < n -> l.toArray[k]? = some o -> (l.take n)[k]? = some o:=fun k o hk ho=>by
    rw [List.getElem?_take_of_lt hk]; simpa using ho
  -- an operation and its form
  have hIns : ∀ (k : Nat) (o : Oper),l.toArray[k]? = some o -> ∃ i,is[k]? = some i /\ cIns P l.toArray N o = some i:=fun k o ho=>by
    have ho' : l[k]? = some o:=by simpa using ho
    have hkl:=(List.getElem?_eq_some_iff.1 ho').1
    have h1:=(mapM_spec (hdrop k)).1
    have hd : l.drop k = o::l.drop (k + 1):=by rw [List.drop_eq_getElem_cons hkl,(List.getElem?_eq_some_iff.1 ho').2]
    have h2:=hdrop k
    rw [hd,List.mapM_cons] at h2
    simp only [Option.bind_eq_bind,Option.pure_def] at h2
    obtain ⟨i,hi,h2⟩:=Option.bind_eq_some_iff.1 h2
    obtain ⟨is',_,h2⟩:=Option.bind_eq_some_iff.1 h2
    refine ⟨i,?_,hi⟩
    have : (is.drop k)[0]? = some i:=by rw [<- Option.some.inj h2]; rfl
    simpa using this
  obtain ⟨Hn,e0,Qe,G,S,C,hK,hs⟩:=dvc_list hS.cur.rel (ops:=l.toArray) (N:=N) (l.take n) (is.take n) (htake n) e [] [] _ (by simpa using h)
  simp only [List.append_nil] at hK
  rw [endK_eq] at hK
  obtain ⟨Hr,js,hjs,hle,hlv,hmv⟩:=midK_any hK
  generalize hlt : (L.filterMap fun i=>is[i]?) = lt at hlv hmv
  have hltm : ∀ i ∈ L,∀ x,is[i]? = some x -> x ∈ lt:=fun i hi x hx=>by rw [<- hlt]; exact List.mem_filterMap.2 ⟨i,hi,hx⟩
  have hltd : ∀ t,(∃ i ∈ lt,i.dst = some t) ↔ ∃ i ∈ L,∃ o,l.toArray[i]? = some o /\ o.dst = some t:=fun t=>by
    constructor
    . rintro ⟨x,hx,hd⟩
      rw [<- hlt] at hx
      obtain ⟨i,hi,hx⟩:=List.mem_filterMap.1 hx
      have hil:=hLn i hi
      have hol' : i < l.length:=by omega
      obtain ⟨x',hx',hc⟩:=hIns i l[i] (by simp [hol'])
      rw [hx] at hx'; cases hx'
      exact ⟨i,hi,l[i],by simp [hol'],by rw [<- (cIns_spec hc).2.1]; exact hd⟩
    . rintro ⟨i,hi,o,ho,hd⟩
      obtain ⟨x,hx,hc⟩:=hIns i o ho
      exact ⟨x,hltm i hi x hx,by rw [(cIns_spec hc).2.1]; exact hd⟩
  have hS0 : S 0 = 0:=hs.s0
  have hS1 : S n = Hn.length:=by have:=hs.s1; rw [hol] at this; simpa using this
  have hup : ∀ k,k < n -> S k <= S (k + 1):=fun k hk=>hs.up k (by omega)
  have hmon : ∀ i j,i <= j -> j <= n -> S i <= S j:=by
    intro i j hij
    induction j with
    | zero=>intro _; cases Nat.le_zero.1 hij; exact Nat.le_refl _
    | succ j ih =>
      intro hj
      by_cases h' : i = j + 1
      . subst h'; exact Nat.le_refl _
      . exact Nat.le_trans (ih (by omega) (by omega)) (hup j (by omega))
  let g0 : List (Option Nat):=List.replicate Hn.length none
  have hg0 : ∀ b : Nat,some b ∉ g0:=fun b hb=>by have:=(List.mem_replicate.1 hb).2; cases this
  have hg0k : ∀ (k b : Nat),g0[k]? ≠ some (some b):=fun k b h=>hg0 b (List.mem_of_getElem? h)
  obtain ⟨r1,r2,r4⟩:=hs.all Hn Qe (by simp) (fun _ h=>h) 0 G (fun t=>RF A β (look e t)) (fun k=>S (min k n)) C (fun k o ho=>by
      have : k < (l.take n).length:=(List.getElem?_eq_some_iff.1 ho).1
      rw [List.getElem?_take_of_lt (by omega)] at ho; simpa using ho) (fun k _=>by simp) (fun k hk=>by rw [hol] at hk; simp [Nat.min_eq_left hk]) (fun k _=>by simp) hs.one (fun i j hij=>hmon (min i n) (min j n) (by omega) (Nat.min_le_right _ _)) (fun t v s h=>h)
  rw [hol] at r1
  simp only [Nat.zero_add] at r1 r2 r4
  have hbd : Belo w.heap.size w w.drew:=(Belo.refl _ _).drew
  have hokk0 : Okk w A β Hn Qe (w.drew,(g0,[])):=⟨fun b hb=>by
      rcases hb with hb | hb
      . exact hS.cur.fin b hb
      . exact absurd hb (hg0 b),fun k k' b hk=>absurd hk (hg0k k b),fun b hb=>absurd hb (hg0 b),by simp [g0],fun k b blk hk=>absurd hk (hg0k k b),fun k hk=>by simp at hk⟩
  have hC0 : ∀ t,RF A β (look e t) (a.tmps.getD t undef) (w.drew,(g0,[])):=fun t=>((hS.env t).mono (Stp.below hbd) (fun b _ ha=>by
      rcases ha with ha | ha
      . exact ha
      . exact absurd ha (hg0 b))).more _ fun k b hk=>by
        rw [List.getElem?_append_left (List.getElem?_eq_some_iff.1 hk).1]; exact hk
  have hCs : ∀ t,Stable (RS w A β Hn Qe) (RF A β (look e t)):=fun t v s s' hR hr=>rep_step hR hr
  have hO : ∀ (j : Nat) (oj : Oper),j < n -> l.toArray[j]? = some oj -> Obl P l.toArray (RS w A β Hn Qe) (UU β.length (fun k=>S (min k n)) C) (w.drew,(g0,[])) N a.defers (Cat l.toArray G (fun t=>RF A β (look e t)) j) j oj (G j) :=
    fun j oj hj hoj=>r2 j oj (hops j oj hj hoj) _ _ hokk0 hbd
  have hQn : ∀ x ∈ Qe,β.length <= x:=fun x hx=>(hs.newer x hx).resolve_left (by simp)
  -- what is asked of the late ones by their text
  have hap : ∀ i ∈ L,∃ oi d,l.toArray[i]? = some oi /\ oi.guard = none /\ oi.dst = some d /\ ∀ (j : Nat) (oj : Oper) (t : Tmp),i <= j -> j < n1 -> l.toArray[j]? = some oj -> oj.dst = some t -> t ∉ oi.looksAt l.toArray /\ (n <= j -> d ≠ t):=fun i hi=>by
    have h1:=List.all_eq_true.1 hapart i hi
    split at h1
    . rename_i oi hoi
      simp only [Bool.and_eq_true] at h1
      obtain ⟨⟨h1,h2⟩,h3⟩:=h1
      obtain ⟨d,hd⟩:=Option.isSome_iff_exists.1 h2
      refine ⟨oi,d,hoi,by simpa using h1,hd,fun j oj t hij hj hoj ht=>?_⟩
      have h4:=List.all_eq_true.1 h3 j (List.mem_range.2 hj)
      simp only [hoj,ht,hd,Bool.or_eq_true,decide_eq_true_eq,Bool.and_eq_true,Bool.not_eq_true'] at h4
      rcases h4 with h4 | h4
      . omega
      . refine ⟨by simpa using h4.1,fun hnj=>?_⟩
        rcases h4.2 with h5 | h5
        . omega
        . simpa using h5
    . cases h1
  have hs01 : (w.drew,(g0,([] : List Nat))).1 = { w with drawn:=w.drawn + 1 }:=rfl
  rw [show ({ w with drawn:=w.drawn + 1 } : World) = (w.drew,(g0,([] : List Nat))).1 from rfl]
  refine wpAny_early (U:=UU β.length (fun k=>S (min k n)) C) (F:=G) (C0:=fun t=>RF A β (look e t)) (a0:=a) (n:=n) (N:=N) (L:=L) (R:=RS w A β Hn Qe) (s0:=(w.drew,(g0,[]))) RS.refl RS.trans hpair hback hdst hC0 hCs (by simp; omega) hsink hchain hO (fun fuel listed a1 s hfuel hearly inv=>?_) l.toArray.size (Array.replicate l.toArray.size false) a (w.drew,(g0,[])) (left_replicate _) ?_
  · -- all but the late ones are done
    have hR:=inv.step
    have hok:=hR.okk hokk0
    have hbw : Belo w.heap.size w s.1:=hbd.trans hR.below
    have hWRl:=hS.cur.rel
    have hnew : ∀ (k b : Nat),(unname Qe (β ++ s.2.1))[k]? = some (some b) -> (k < β.length /\ β[k]? = some (some b)) \/ (β.length <= k /\ s.2.1[k - β.length]? = some (some b) /\ k - β.length ∉ s.2.2):=fun k b hk=>by
      obtain ⟨hkQ,hk⟩:=(unname_get Qe _ k b).1 hk
      by_cases hl : k < β.length
      . rw [List.getElem?_append_left hl] at hk; exact .inl ⟨hl,hk⟩
      . rw [List.getElem?_append_right (by omega)] at hk
        refine .inr ⟨by omega,hk,fun hm=>hkQ ?_⟩
        have:=(hok.eat _ hm).1
        rwa [show β.length + (k - β.length) = k by omega] at this
    have hcur : Cur w A β M ks s.1 (AS A s) (unname Qe (β ++ s.2.1)) (deadHs Qe (H ++ Hn)):=by
      refine ⟨⟨by rw [unname_length,deadHs_length]; simp [hWRl.len,hok.len],fun k k' b hk hk'=>?_,fun k b hk=>?_,((wb_at hWRl hbw hok Hn (by simp)).unname Qe).blk⟩,hok.fin,Frm.below hbw,fun b hb=>⟨fun ha=>?_,fun ha=>.inl ha⟩,fun k b hk hb=>?_,fun k hk _=>?_,by rw [unname_length]; simp⟩
      . rcases hnew k b hk with ⟨h1,h2⟩ | ⟨h1,h2,e1⟩ <;> rcases hnew k' b hk' with ⟨h3,h4⟩ | ⟨h3,h4,e2⟩
        . exact hWRl.inj k k' b h2 h4
        . have:=(hWRl.own k b h2).2
          have:=hok.new b (List.mem_of_getElem? h4)
          omega
        . have:=(hWRl.own k' b h4).2
          have:=hok.new b (List.mem_of_getElem? h2)
          omega
        . have:=hok.inj _ _ b h2 h4 e1 e2
          omega
      . have hA : AS A s b:=by
          rcases hnew k b hk with ⟨h1,h2⟩ | ⟨h1,h2,_⟩
          . exact .inl (hWRl.own k b h2).1
          . exact .inr (List.mem_of_getElem? h2)
        exact ⟨hA,hok.fin b hA⟩
      . rcases ha with ha | ha
        . exact ha
        . have:=hok.new b ha; omega
      . rcases hnew k b hk with ⟨h1,h2⟩ | ⟨h1,h2,_⟩
        . exact List.mem_of_getElem? h2
        . have:=hok.new b (List.mem_of_getElem? h2); omega
      . rw [unname_same Qe _ k (fun hm=>by have:=hQn k hm; omega),List.getElem?_append_left hk]
    -- a slot whose writer is done holds what is told of it
    have hslot0 : ∀ t,(∀ (i : Nat) (oi : Oper),i < n -> l.toArray[i]? = some oi -> oi.dst = some t -> listed.getD i false = true) -> RF A β (look e0 t) (a1.tmps.getD t undef) s:=fun t ht=>by
      refine r1 t _ s ?_
      rcases cat_cases (ops:=l.toArray) G (fun t=>RF A β (look e t)) n t with ⟨i,oi,hi,hoi,hd,hF,_⟩ | ⟨hno,hC⟩
      . rw [hF]; exact inv.done i oi t hi hoi hd (ht i oi hi hoi hd)
      . rw [hC,inv.old t fun i oi hi hoi hd=>absurd hd (hno i oi hi hoi)]
        exact hCs t _ _ _ inv.step (hC0 t)
    have hslot : ∀ t,(∀ (i : Nat) (oi : Oper),i < n -> l.toArray[i]? = some oi -> oi.dst = some t -> listed.getD i false = true) -> Rep s.1 (AS A s) (unname Qe (β ++ s.2.1)) (look (killEs Qe e0) t) (a1.tmps.getD t undef):=fun t ht=>by
      have h1 : EnvRel s.1 (AS A s) (β ++ s.2.1) [(0,look e0 t)] #[a1.tmps.getD t undef]:=fun j=>by
        by_cases hj : 0 = j
        . subst hj; exact hslot0 t ht
        . simp only [look,if_neg hj]; exact .any _ _
      have h2:=EnvRel.kills (Stp.refl _ _) (fun _ _ h=>h) Qe _ h1 (γ:=unname Qe (β ++ s.2.1)) (fun j b hj hb=>(unname_get Qe _ j b).2 ⟨hj,hb⟩) 0
      have e1 : ∀ (js : List Nat) (e : Env) (e' : Env) (t t' : Nat),look e t = look e' t' -> look (killEs js e) t = look (killEs js e') t':=by
        intro js
        induction js with
        | nil=>exact fun e e' t t' h=>h
        | cons j js ih=>intro e e' t t' h; exact ih _ _ _ _ (by rw [look_kill,look_kill,h])
      rw [e1 Qe [(0,look e0 t)] e0 0 t (by simp [look])] at h2
      simpa using h2
    generalize hee : killEs Qe e0 = ee at hslot hlv hmv
    generalize hHH : deadHs Qe (H ++ Hn) = HH at hcur hle hmv
    obtain ⟨ek,hek⟩ : ∃ ek,killEs js ee = ek:=⟨_,rfl⟩
    rw [hek] at hlv hmv
    have hidem : ∀ t,killVs js (look ek t) = look ek t:=fun t=>by rw [<- hek,look_kills,killVs_idem]
    generalize unname Qe (β ++ s.2.1) = ββ at hcur hslot
    have hS1 : Sta w0 A0 β0 M ks N y Y g (maskE lt ee) HH a1 s.1 (AS A s) ββ:=by
      refine ⟨hS.cur.trans hcur,fun t=>?_,inv.size,by rw [inv.defers]; exact hS.marks.step hcur,fun h=>by rw [inv.defers]; exact hS.nodef h,hY.stab _ _ _ _ _ _ _ _ hS.inv hcur⟩
      rw [look_mask]
      split
      . exact .any _ _
      . rename_i hno
        refine hslot t fun i oi hi hoi hd=>?_
        refine hearly i hi fun hiL=>hno ((hltd t).2 ⟨i,hiL,oi,hoi,hd⟩)
    -- the second part
    let X : Nat -> Array Bool -> Act -> World -> Prop:=fun t listed a' w'=>∃ (e' : Env) (H' : List Blk) (A' : Nat -> Prop) (β' : List (Option Nat)),
      mvc P js lt (((is.drop n).take (n1 - n)).drop (t - n)) e' H' Hr (fun e2 H2=>rvc P M ks y (is.drop n1) (restE lt ek e2) H2 g K) /\ Sta w0 A0 β0 M ks N y Y g e' H' a' w' A' β' /\ leR H' Hr /\
      (∀ t,(∃ i ∈ lt,i.dst = some t) -> look e' t = .any) /\
      ∀ t,(∀ (j : Nat) (oj : Oper),n <= j -> j < n1 -> l.toArray[j]? = some oj -> oj.dst ≠ some t) -> (∀ (i : Nat) (oi : Oper),i < n -> l.toArray[i]? = some oi -> oi.dst = some t -> listed.getD i false = true) -> Rep w' A' β' (look ek t) (a'.tmps.getD t undef)
    refine wpAny_late (l:=l) rfl (n:=n) (n1:=n1) (L:=L) (X:=X) hback hn1s hchain hlate (by simpa using hseq) hLn ?_ ?_ ?_ fuel n listed a1 s.1 hfuel (Nat.le_refl _) (by omega) inv.head.size inv.head.closed hearly (fun j hj hjs=>?_) ⟨_,_,_,_,by simpa using hmv,hS1,hle,fun t ht=>by rw [look_mask,if_pos ht],fun t _ ht=>by rw [<- hek,look_kills]; exact (hslot t ht).kills (Stp.refl _ _) (fun _ _ h=>h) fun _ _ _ h=>h⟩
    · -- a late one
      rintro t listed a' w' j oj ⟨e',H',A',β',hmv',hS',hle',hany,hsl⟩ ht ht1 hjL hoj hready
      obtain ⟨hun,oj',hoj',hdeps⟩:=mem_ready.1 hready
      rw [hoj] at hoj'
      obtain rfl:=Option.some.inj hoj'
      obtain ⟨oi,d,hoi,hgn,hd,hapj⟩:=hap j hjL
      rw [hoj] at hoi
      obtain rfl:=Option.some.inj hoi
      have hjn:=hLn j hjL
      obtain ⟨i,hi,hc⟩:=hIns j oj hoj
      obtain ⟨hcop,hdst',_⟩:=cIns_spec hc
      obtain ⟨t',ht',hpop⟩:=lvc_spec hlv i (hltm j hjL i hi)
      obtain rfl : d = t':=by rw [hdst',hd] at ht'; exact Option.some.inj ht'
      obtain ⟨sv,hsv,hgood⟩:=pop_sound hcop hpop
      obtain ⟨hdN,hlN,huniq⟩:=dst_spec hdst hjn hoj
      unfold wpOpIn
      simp only [hoj,wanted_none hgn,if_true]
      refine wpIn_of_rel (hgood w' A' β' a' hS'.cur.fin (hS'.cur.rel.wb.less hle') fun u hu=>?_) fun v w'' ⟨hb,hr⟩=>?_
      . have hul : u ∈ oj.looksAt l.toArray:=List.mem_append_left _ (List.mem_filterMap.2 ⟨.tmp u,by simpa using hu,rfl⟩)
        refine hsl u (fun k ok hk hk1 hok hdk=>(hapj k ok u (by omega) hk1 hok hdk).1 hul) fun k ok hk hok hdk=>?_
        rcases Nat.lt_or_ge k j with hkj | hkj
        . rcases pair_spec hpair hkj hok hoj with ⟨e,he,hb,hon⟩ | hapt
          . rw [<- hon]; exact hdeps e he hb
          . exact absurd hul ((Oper.apart_spec hapt).1 u hdk)
        . exact absurd hul (hapj k ok u hkj (by omega) hok hdk).1
      . have hcur1 : Cur w' A' β' M ks w'' A' β' H':=(hS'.cur.again).below hb
        refine ⟨e',H',A',β',hmv',⟨hS'.cur.trans hcur1,fun u=>?_,by rw [hd]; simpa [Act.put] using hS'.size,by rw [hd]; simpa [Act.put] using hS'.marks.step hcur1,fun h=>by rw [hd]; simpa [Act.put] using hS'.nodef h,hY.stab _ _ _ _ _ _ _ _ hS'.inv hcur1⟩,hle',hany,fun u hu1 hu2=>?_⟩
        . rw [hd,put_getD]
          split
          . rename_i hcnd
            rw [<- hcnd.1,hany d ((hltd d).2 ⟨j,hjL,oj,hoj,hd⟩)]
            exact .any _ _
          . exact (hS'.env u).mono (Stp.below hb) fun _ _ h=>h
        . rw [hd,put_getD]
          split
          . rename_i hcnd
            rw [<- hcnd.1,hsv]; exact hr
          . rename_i hcnd
            have hdu : d ≠ u:=fun h=>hcnd ⟨h,by rw [hS'.size,<- h]; exact hdN d hd⟩
            refine (hsl u hu1 fun k ok hk hok hdk=>?_).mono (Stp.below hb) fun _ _ h=>h
            have:=hu2 k ok hk hok hdk
            rwa [getD_set_ne false (fun h=>by subst h; rw [hoj] at hok; cases hok; rw [hd] at hdk; exact hdu (Option.some.inj hdk))] at this
    · -- one of those in order
      rintro t listed a' w' ot ⟨e',H',A',β',hmv',hS',hle',hany,hsl⟩ ht ht1 hot
      obtain ⟨i,hi,hc⟩:=hIns t ot hot
      obtain ⟨hcop,hdst',hdN,hgd⟩:=cIns_spec hc
      have hmid : ((is.drop n).take (n1 - n)).drop (t - n) = i::((is.drop n).take (n1 - n)).drop (t + 1 - n):=by
        have hil:=(List.getElem?_eq_some_iff.1 hi).1
        have hlt' : t - n < ((is.drop n).take (n1 - n)).length:=by simp; omega
        rw [List.drop_eq_getElem_cons hlt',show t - n + 1 = t + 1 - n by omega]
        congr 1
        have : ((is.drop n).take (n1 - n))[t - n]? = some i:=by
          rw [List.getElem?_take_of_lt (by omega),List.getElem?_drop,show n + (t - n) = t by omega]; exact hi
        exact (List.getElem?_eq_some_iff.1 this).2
      have hpl : i.op.amid = true /\ i.guard = none:=by
        have hm : i ∈ (is.drop n).take (n1 - n):=List.mem_of_mem_drop (by rw [hmid]; simp)
        have:=List.all_eq_true.1 hplain i hm
        simpa using this
      have hgn : ot.guard = none:=by
        rcases hgd with ⟨h1,_⟩ | ⟨j,want,t',_,_,_,h4⟩
        . exact h1
        . rw [h4] at hpl; exact absurd hpl.2 (by simp)
      rw [hmid,mvc_cons_eq] at hmv'
      -- behind it
      have next : ∀ (e2 : Env) (H2 : List Blk) (A2 : Nat -> Prop) (β2 : List (Option Nat)) (v : Value) (w'' : World),EnvRel w'' A2 β2 e2 (a'.put ot.dst v).tmps -> (∀ u,(∃ i ∈ lt,i.dst = some u) -> look e2 u = .any) -> leR H2 Hr -> mvc P js lt (((is.drop n).take (n1 - n)).drop (t + 1 - n)) e2 H2 Hr (fun e2 H2=>rvc P M ks y (is.drop n1) (restE lt ek e2) H2 g K) ->
          Cur w' A' β' β'.length js w'' A2 β2 H2 -> X (t + 1) (listed.setIfInBounds t true) (a'.put ot.dst v) w'':=by
        intro e2 H2 A2 β2 v w'' henv2 hany2 hle2 hmv2 hcur2
        have hown : ∀ (k b : Nat),β'[k]? = some (some b) -> A' b:=fun k b hk=>(hS'.cur.rel.own k b hk).1
        have hcm : Cur w' A' β' M ks w'' A2 β2 H2:=hcur2.widen fun k hk h=>h.elim (fun h=>by omega) (hjs k)
        refine ⟨e2,H2,A2,β2,hmv2,⟨hS'.cur.trans hcm,henv2,by cases ot.dst <;> simpa [Act.put] using hS'.size,by
          have:=hS'.marks.step hcm
          cases ot.dst <;> simpa [Act.put] using this,fun h=>by
          have:=hS'.nodef h
          cases ot.dst <;> simpa [Act.put] using this,hY.stab _ _ _ _ _ _ _ _ hS'.inv hcm⟩,hle2,hany2,fun u hu1 hu2=>?_⟩
        have h1 : (a'.put ot.dst v).tmps.getD u undef = a'.tmps.getD u undef:=by
          cases hdd : ot.dst with
          | none=>rfl
          | some d' =>
            rw [put_getD]
            have : d' ≠ u:=fun h=>hu1 t ot ht ht1 hot (by rw [hdd,h])
            simp [this]
        rw [h1]
        have h2:=hsl u hu1 fun k ok hk hok hdk=>by
          have:=hu2 k ok hk hok hdk
          rwa [getD_set_ne false (by omega)] at this
        rw [<- hidem u]
        refine h2.kills (hcur2.frm.stp hown) (fun b hb ha=>(hcur2.agree b hb).1 ha) fun k b hk hb=>?_
        have hl:=(List.getElem?_eq_some_iff.1 hb).1
        rw [hcur2.same k hl fun h=>h.elim (fun h=>by omega) hk]; exact hb
      -- nothing is told of the late ones' slots
      have anyLate : ∀ (sv : SV) (u : Nat),(∃ i ∈ lt,i.dst = some u) -> look (setE e' i.dst sv) u = .any:=fun sv u hu=>by
        obtain ⟨k,hkL,ok,hok,hdk⟩:=(hltd u).1 hu
        obtain ⟨oi,d,hoi,_,hd,hapj⟩:=hap k hkL
        rw [hok] at hoi
        obtain rfl:=Option.some.inj hoi
        rw [hdk] at hd
        obtain rfl:=Option.some.inj hd
        have hkn:=hLn k hkL
        rw [hdst']
        cases hdd : ot.dst with
        | none=>exact hany u hu
        | some d' =>
          have hne:=(hapj t ot d' (by omega) ht1 hot hdd).2 ht
          simp only [setE,look]
          rw [if_neg (fun h=>hne h.symm)]
          exact hany u hu
      unfold wpOpIn
      simp only [hot,wanted_none hgn,if_true]
      rcases amid_cases hpl.1 with hpl1 | ⟨wd,bytes,x,y',hop⟩
      . rcases plain_env hpl1 hmv' β'.length [] with ⟨f,hpop,hf⟩ | ⟨sz,x,v,hop,hst⟩
        . obtain ⟨sv,hsv,hgood⟩:=pop_sound hcop hpop
          have h3:=hf sv hsv
          rw [fc_eq,fhi_eq,afterA_plain hpl1] at h3
          refine wpIn_of_rel (hgood w' A' β' a' hS'.cur.fin hS'.cur.rel.wb fun u _=>hS'.env u) fun v w'' ⟨hb,hr⟩=>?_
          have hcur2 : Cur w' A' β' β'.length js w'' A' β' H':=(hS'.cur.anew).below hb
          have henv2 : EnvRel w'' A' β' e' a'.tmps:=fun u=>(hS'.env u).mono (Stp.below hb) fun _ _ h=>h
          refine next (setE e' i.dst sv) H' A' β' v w'' (by rw [hdst']; exact henv2.put (fun u hu=>by rw [hS'.size]; exact hdN u hu) hr) (anyLate sv) hle' ?_ hcur2
          unfold leRm at h3
          split at h3
          . exact h3.2
          . exact h3
        . have hcop' : cop P ot = some (.st sz x v):=by rw [<- hop]; exact hcop
          have hrel:=xop_rel (w0:=w') (A0:=A') (β0:=β') hcop' hst hS'.cur.anew hS'.env
          refine wpIn_of_rel hrel fun u w'' hT=>?_
          obtain ⟨sv,e2,H2,A2,β2,⟨hK2,he2⟩,hcur2,henv2,hrep⟩:=hT
          subst he2
          rw [fc_eq,fhi_eq,afterA_plain hpl1] at hK2
          have hmoves : i.op.moves = true:=by rw [hop]; rfl
          unfold leRm at hK2
          rw [hmoves] at hK2
          exact next _ H2 A2 β2 u w'' (by rw [hdst']; exact henv2.put (fun u hu=>by rw [hS'.size]; exact hdN u hu) hrep) (anyLate sv) hK2.1 hK2.2 (hcur2.widen fun k _ h=>h.elim Or.inl fun h=>by simp at h)
      . have hcop' : cop P ot = some (.ap wd bytes x y'):=by rw [<- hop]; exact hcop
        rw [hop] at hmv'
        rw [<- hS'.cur.rel.len] at hmv'
        have hrel:=xop_rel (w0:=w') (A0:=A') (β0:=β') hcop' hmv' hS'.cur.anew hS'.env
        refine wpIn_of_rel hrel fun u w'' hT=>?_
        obtain ⟨sv,e2,H2,A2,β2,hK2,hcur2,henv2,hrep⟩:=hT
        rw [fc_eq,fhi_eq] at hK2
        have hput:=henv2.put (d:=ot.dst) (fun u hu=>by rw [hS'.size]; exact hdN u hu) hrep
        rw [<- hdst'] at hput
        refine next _ H2 A2 β2 u w'' (fun u'=>?_) (fun u' hu'=>?_) hK2.1 hK2.2 hcur2
        . show Rep w'' A2 β2 (look (maskE lt (setE e2 i.dst sv)) u') _
          rw [look_mask]
          split
          . exact .any _ _
          . rw [<- hdst']; exact hput u'
        . show look (maskE lt (setE e2 i.dst sv)) u' = .any
          rw [look_mask,if_pos hu']
    · -- the rest
      rintro listed a' w' ⟨e',H',A',β',hmv',hS',hle',hany,hsl⟩ hdone
      have hmid : ((is.drop n).take (n1 - n)).drop (n1 - n) = []:=List.drop_eq_nil_of_le (by simp; omega)
      rw [hmid,mvc_nil_eq] at hmv'
      refine rvc_sound (r:=none) hY (l.drop n1) (is.drop n1) (hdrop n1) _ _ g K _ _ _ _ hmv' ⟨hS'.cur,fun t=>?_,hS'.size,hS'.marks,hS'.nodef,hS'.inv⟩ fun e2 H2 g2 a2 w2 A2 β2 hk hst=>hQ e2 H2 g2 a2 w2 A2 β2 hk hst
      rw [look_rest]
      split
      . rename_i hlate'
        obtain ⟨k,hkL,ok,hok,hdk⟩:=(hltd t).1 hlate'
        obtain ⟨oi,d,hoi,_,hd,hapj⟩:=hap k hkL
        rw [hok] at hoi
        obtain rfl:=Option.some.inj hoi
        rw [hdk] at hd
        obtain rfl:=Option.some.inj hd
        have hkn:=hLn k hkL
        refine hsl t (fun j oj hj hj1 hoj hdj=>?_) fun i oi hi _ _=>hdone i hi
        exact (hapj j oj t (by omega) hj1 hoj hdj).2 hj rfl
      . exact hS'.env t
    . have:=getD_both (inv.head.tail j hj hjs)
      rw [this]; simp; omega
  · -- the start
    have hrep : ∀ t,t < l.toArray.size -> (Array.replicate l.toArray.size false).getD t true = false:=fun t hts=>by
      have h' : t < l.length:=by simpa using hts
      simp [Array.getD,h']
    refine ⟨⟨by simp,fun j oj hoj hl=>by simp [Array.getD] at hl,fun t ht hts=>hrep t hts⟩,RS.refl _,hS.size,rfl,fun i oi t hin hoi hd hl=>by simp [Array.getD] at hl,fun t _=>rfl,fun k _ _=>⟨fun q h1 h2=>?_,fun x _ hm=>by simp at hm⟩⟩
    have : S (min (k + 1) n) <= Hn.length:=by rw [<- hS1]; exact hmon _ _ (Nat.min_le_right _ _) (Nat.le_refl _)
    have h2' : q < S (min (k + 1) n):=h2
    show (List.replicate Hn.length none)[q]? = some none
    rw [List.getElem?_replicate_of_lt (by omega)]
end
end
end Go.Proofs.YtelbhbadkbcakaaGreat
