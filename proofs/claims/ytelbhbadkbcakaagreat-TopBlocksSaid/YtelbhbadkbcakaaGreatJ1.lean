/- Functions some of whose operations are told apart by what they do. Steps of such walks. The heap of a merger: what its methods do. The heap of a merger: what the heap's own functions do. -/
import Derived.Test.YtelbhbadkbcakaaGreatW1
import Derived.Test.YtelbhbadkbcakaaGreatV1
import Derived.Test.YtelbhbadkbcakaaGreatV4
import Derived.Test.YtelbhbadkbcakaaGreatE6
namespace Go.Proofs.YtelbhbadkbcakaaGreat
section
open Go.Proofs.YtelbhbadkbcakaaGreat Go.RowKit
@[irreducible] def SemOp (P : Program) (X : World -> (Nat -> Prop) -> List (Option Nat) -> Prop) (M : Nat) (ks : List Nat) (op : IOp) (e : Env) (H : List Blk) (g : Option Nat) (R : SV -> Env -> List Blk -> Option Nat -> Prop) : Prop :=
  ∀ (o : Oper), cop P o = some op → ∀ (w : World) (A : Nat → Prop) (β : List (Option Nat)) (a : Act), X w A β → (∀ b, A b → b < w.heap.size) → WRel w A β H → EnvRel w A β e a.tmps →
    rel P o a w fun v w'=>∃ (sv : SV) (e2 : Env) (H2 : List Blk) (A' : Nat -> Prop) (β' : List (Option Nat)),R sv e2 H2 g /\ X w' A' β' /\ Cur w A β M ks w' A' β' H2 /\ EnvRel w' A' β' e2 a.tmps /\ Rep w' A' β' sv v
def isRaw : SV -> Bool
  | .raw _=>true
  | _=>false
def selY (op : IOp) (e : Env) : Bool:=match op with
  | .oth _=>true
  | .call _ xs=>xs.any fun x=>isRaw (ev e x)
  | .ln x=>isRaw (ev e x)
  | _=>false
def semY (P : Program) (X : World → (Nat → Prop) → List (Option Nat) → Prop) : Yv :=
  { out := false, l := 0, xs := [], othH := fun M ks op e H => match selY op e with
    | true=>some fun g R=>SemOp P X M ks op e H g R
    | false=>none }
structure Known (n M : Nat) (ks : List Nat) (X : World -> (Nat -> Prop) -> List (Option Nat) -> Prop) : Prop where
  stab : ∀ (w : World) (A : Nat -> Prop) (β : List (Option Nat)) (w2 : World) (A2 : Nat -> Prop) (β2 : List (Option Nat)) (H2 : List Blk),X w A β -> Cur w A β M ks w2 A2 β2 H2 -> X w2 A2 β2
  names : ∀ (w : World) (A : Nat -> Prop) (β β2 : List (Option Nat)),(∀ b,some b ∈ β2 -> A b) -> (∀ k,k < n -> β2[k]? = β[k]?) -> X w A β -> X w A β2
theorem yok_sem {P : Program} {A0 : Nat -> Prop} {β0 : List (Option Nat)} {M : Nat} {ks : List Nat} {X : World -> (Nat -> Prop) -> List (Option Nat) -> Prop} {B0 : Nat -> Prop} (h : Known β0.length M ks X) : Yok P A0 β0 M ks (semY P X) ⟨B0,fun _ w A β=>X w A β⟩ where
  stab:=fun _ w A β w2 A2 β2 H2 hX hcur=>h.stab w A β w2 A2 β2 H2 hX hcur
  names:=fun _ w A β β2 _ hm hk hX=>h.names w A β β2 (fun b hb=>(hm b hb).2) hk hX
  wide:=fun _ h=>absurd rfl h
  yld:=fun i x us w A β h=>by simp [semY] at h
  oth:=fun o op e H T _ hT=>by simp [semY] at hT
  othH:=fun o op e H T hcop hT g R hTR w0 w A β a hcur hX henv=>by
    have hT' : (match selY op e with
      | true=>some fun g R=>SemOp P X M ks op e H g R
      | false=>none) = some T:=hT
    split at hT'
    . cases hT'
      simp only [SemOp] at hTR
      exact (rel_mono (hTR o hcop w A β a hX hcur.fin hcur.rel henv) fun v w' ⟨sv,e2,H2,A',β',h1,h2,h3,h4,h5⟩=>⟨sv,e2,H2,g,A',β',h1,h2,hcur.trans h3,h4,h5⟩)
    . cases hT'
@[irreducible] def HX (P : Program) (f : FuncId) (X : World -> (Nat -> Prop) -> List (Option Nat) -> Prop) (args : List SV) (H : List Blk) (res : SV) (H' : List Blk) (ks : List Nat) : Prop :=
  (∀ vs w,(callFunc f vs).run P w = .ok (.enter f vs) w) /\
  ∀ (w : World) (A : Nat → Prop) (β : List (Option Nat)) (vs : List Value), (∀ b, A b → b < w.heap.size) → WRel w A β H → X w A β → Reps w A β args vs →
    Calls P f vs.toArray w fun e w'=>∃ (v : Value) (A' : Nat -> Prop) (β' : List (Option Nat)),e = .returned v /\ X w' A' β' /\ Cur w A β H.length ks w' A' β' H' /\ Rep w' A' β' res v
section
variable {P : Program} {f : FuncId} {N : Nat} {ir : IR} {rs : List RV} {res : SV} {H Hr : List Blk} {ks : List Nat}
theorem last_of {w w' : World} {A A' : Nat -> Prop} {β β' : List (Option Nat)} {M : Nat} {H' : List Blk} {sv : SV} {v : Value} (hW : WRel w A β H) (hR : leV H'.length sv res) (hRH : leHd (dropR H.length res Hr) H'.length H' Hr)
    (hcur : CurX (fun b=>some b ∈ β) w A β M ks w' A' β' H') (hrep : Rep w' A' β' sv v) : ∃ β'',Cur w A β M ks w' A' β'' Hr /\ Rep w' A' β'' res v /\ ∀ k,k < H.length -> β''[k]? = β'[k]?:=by
  have hl:=hW.len
  have hm:=hcur.more
  rcases leHd_spec H' Hr hRH with hH | ⟨⟨h1,h2,h3⟩,d,hH⟩
  . exact ⟨_,(hcur.weaken hH).cur,leV_rep hR (hrep.more _ nones_more),fun k hk=>List.getElem?_append_left (by omega)⟩
  . refine ⟨_,((hcur.weaken hH).trunc (by omega) h3).cur,(leV_rep hR (hrep.more _ nones_more)).trunc _ h2,fun k hk=>?_⟩
    rw [List.getElem?_take_of_lt (by omega)]
    exact List.getElem?_append_left (by omega)
theorem hx_of_cvc {X : World -> (Nat -> Prop) -> List (Option Nat) -> Prop} (hm : P.follows .mixedOrders = true) (hc : Code1 P f N ir rs) {args : List SV} (hK : Known H.length H.length ks X) (hN : args.length <= N)
    (h : cvc P H.length ks (semY P X) ir (argE 0 args) H none fun ex e' H' _=>finK ex (resK rs e' H' fun sv=>leV H'.length sv res /\ leHd (dropR H.length res Hr) H'.length H' Hr)) : HX P f X args H res Hr ks:=by
  simp only [HX]
  refine ⟨hc.enter,fun w A β vs hfin hW hX hr=>(calls_of_cvc hm hc hN (R:=fun sv H' _=>leV H'.length sv res /\ leHd (dropR H.length res Hr) H'.length H' Hr) (Y:=⟨fun b=>some b ∈ β,fun _ w A β=>X w A β⟩) (yok_sem (by rw [hW.len]; exact hK)) (fun b h=>h) h hfin hW hr hX).mono ?_⟩
  rintro e w' ⟨v,A',β',sv,H',g',rfl,⟨hR,hRH⟩,hcur,hrep,hX'⟩
  obtain ⟨β'',h1,h2,h3⟩:=last_of hW hR hRH hcur hrep
  exact ⟨v,A',β'',rfl,hK.names _ _ _ _ (fun b hb=>by obtain ⟨k,hk⟩:=mem_name hb; exact (h1.rel.own k b hk).1) h3 (hX' rfl),h1,h2⟩
theorem hs_of_cvcX {ι : Type} {X : ι -> World -> (Nat -> Prop) -> List (Option Nat) -> Prop} (hm : P.follows .mixedOrders = true) (hc : Code1 P f N ir rs) {args : List SV} {args' : ι -> List SV} (hK : ∀ i,Known H.length H.length ks (X i)) (hN : ∀ i,(args' i).length <= N)
    (hstart : ∀ (w : World) (A : Nat -> Prop) (β : List (Option Nat)) (vs : List Value),WRel w A β H -> Reps w A β args vs -> ∃ i,X i w A β /\ Reps w A β (args' i) vs)
    (h : ∀ i,cvc P H.length ks (semY P (X i)) ir (argE 0 (args' i)) H none fun ex e' H' _=>finK ex (resK rs e' H' fun sv=>leV H'.length sv res /\ leHd (dropR H.length res Hr) H'.length H' Hr)) : HS P f args H res Hr ks:=by
  refine ⟨hc.enter,fun w A β vs hfin hW hr=>?_⟩
  obtain ⟨i,hX,hr'⟩:=hstart w A β vs hW hr
  have hl:=hW.len
  refine (calls_of_cvc hm hc (hN i) (R:=fun sv H' _=>leV H'.length sv res /\ leHd (dropR H.length res Hr) H'.length H' Hr) (Y:=⟨fun b=>some b ∈ β,fun _ w A β=>X i w A β⟩) (yok_sem (by rw [hl]; exact hK i)) (fun b h=>h) (h i) hfin hW hr' hX).mono ?_
  rintro e w' ⟨v,A',β',sv,H',g',rfl,⟨hR,hRH⟩,hcur,hrep,_⟩
  obtain ⟨β'',hw,hv,_⟩:=last_of hW hR hRH hcur hrep
  refine ⟨v,A',β'',rfl,hw.frm,hw.fin,hw.rel,hw.agree,hw.fresh,fun k hk hn=>hw.same k hk fun h=>?_,hw.more,hv⟩
  rcases h with h | h
  . omega
  . exact hn h
theorem hx_of_hs {X : World -> (Nat -> Prop) -> List (Option Nat) -> Prop} {args : List SV} (h : HS P f args H res Hr ks) (hK : Known H.length H.length ks X) : HX P f X args H res Hr ks:=by
  simp only [HX]
  refine ⟨h.1,fun w A β vs hfin hW hX hr=>(h.2 w A β vs hfin hW hr).mono ?_⟩
  rintro e w' ⟨v,A',β',rfl,hfrm,hfin',hW',hag,hfr,hsame,hmore,hrep⟩
  have hc : Cur w A β H.length ks w' A' β' Hr:=⟨hW',hfin',hfrm,hag,hfr,fun k hk hn=>hsame k hk fun h=>hn (.inr h),hmore⟩
  exact ⟨v,A',β',rfl,hK.stab _ _ _ _ _ _ _ hX hc,hc,hrep⟩
end
def XQ (b : Nat) (xs : List (SV × Value)) (w : World) (A : Nat -> Prop) (β : List (Option Nat)) : Prop:=β[0]? = some (some b) /\ (∀ c,some c ∈ β -> A c) /\ ∀ p ∈ xs,Rep w A [] p.1 p.2
theorem known_XQ {n M : Nat} {ks : List Nat} {b : Nat} {xs : List (SV × Value)} (hn : 0 < n) (hM : 0 < M) (hk : 0 ∉ ks) : Known n M ks (XQ b xs) where
  stab:=fun w A β w2 A2 β2 H2 ⟨h1,h2,h3⟩ hc=>⟨by rw [hc.same 0 (List.getElem?_eq_some_iff.1 h1).1 (fun h=>h.elim (fun h=>by omega) hk)]; exact h1,fun c hm=>by obtain ⟨k,hk⟩:=mem_name hm; exact hc.own k c hk,
    fun p hp=>(h3 p hp).mono (hc.frm.stp fun k c hk=>h2 c (List.mem_of_getElem? hk)) fun c hc' hA=>(hc.agree c hc').1 hA⟩
  names:=fun w A β β2 hm hk ⟨h1,_,h3⟩=>⟨by rw [hk 0 hn]; exact h1,hm,h3⟩
end
section
open Go.Proofs.YtelbhbadkbcakaaGreat Go.RowKit
theorem oth_eq {P : Program} {o o' : Oper} (h : cop P o = some (.oth o')) : o' = o:=by
  cases hop : o.op with
  | _ =>
    simp only [cop,hop] at h
    repeat' split at h
    all_goals first | (cases h; rfl) | (cases h; done) | (obtain ⟨_,_,h⟩:=Option.map_eq_some_iff.1 h; cases h; done) | (obtain ⟨_,_,h⟩:=Option.bind_eq_some_iff.1 h; split at h <;> cases h; done) | (obtain ⟨_,_,h⟩:=Option.bind_eq_some_iff.1 h; obtain ⟨_,_,h⟩:=Option.map_eq_some_iff.1 h; cases h)
section
variable {P : Program} {X : World -> (Nat -> Prop) -> List (Option Nat) -> Prop} {M : Nat} {ks : List Nat} {e : Env} {H : List Blk} {g : Option Nat} {R : SV -> Env -> List Blk -> Option Nat -> Prop} {o' : Oper}
theorem sem_same {sv : SV} (hrun : ∀ (w : World) (A : Nat -> Prop) (β : List (Option Nat)) (a : Act),X w A β -> WRel w A β H -> EnvRel w A β e a.tmps -> ∃ v,(execOp a.eval o').run P w = .ok (.value v) w /\ Rep w A β sv v) (hR : R sv e H g) : SemOp P X M ks (.oth o') e H g R:=by
  simp only [SemOp]
  intro o hc w A β a hX hfin hW henv
  obtain rfl:=oth_eq hc
  obtain ⟨v,h1,h2⟩:=hrun w A β a hX hW henv
  exact rel_value h1 ⟨sv,e,H,A,β,hR,hX,Cur.start hW hfin,henv,h2⟩
theorem env_at {w : World} {A : Nat -> Prop} {β : List (Option Nat)} {a : Act} {x : Operand} {sv : SV} (henv : EnvRel w A β e a.tmps) (h : ev e (cOpd x) = sv) : Rep w A β sv (a.eval x):=h ▸ ev_rep x fun t _=>henv t
theorem sem_ptr {T yt : TypeId} {x : Operand} {b wd : Nat} (ho : o'.op = .makeInterface T x) (hu : P.underlying T = some (.pointer yt)) (hx : ev e (cOpd x) = .ptr 0 wd 0 0) (hX : ∀ w A β,X w A β -> β[0]? = some (some b)) (hR : R (.raw (.iface T (.pointer (some ⟨b,0,none⟩)))) e H g) : SemOp P X M ks (.oth o') e H g R:=by
  refine sem_same (fun w A β a h hW henv=>?_) hR
  have hr:=env_at henv hx
  generalize hv : a.eval x = v at hr
  cases hr with
  | ptr _ _ _ _ _ c hk =>
    rw [hX w A β h] at hk
    cases hk
    refine ⟨.iface T (.pointer (some ⟨b,0 * wd + 0,none⟩)),?_,by rw [show 0 * wd + 0 = 0 by omega]; exact .raw _ _⟩
    simp [execOp,ho,hv,Instr.makeInterface,run_under hu]
theorem sem_pair {T : TypeId} {fs : Array Field} {x : Operand} {u : Value} {k : Int} (ho : o'.op = .makeInterface T x) (hu : P.underlying T = some (.struct fs)) (hx : ev e (cOpd x) = .agg [.raw u,.int .i64 k]) (hR : R (.raw (.iface T (.agg #[u,.int .i64 k]))) e H g) : SemOp P X M ks (.oth o') e H g R:=by
  refine sem_same (fun w A β a h hW henv=>?_) hR
  have hr:=env_at henv hx
  generalize hv : a.eval x = v at hr
  cases hr with
  | agg =>
    rename_i vs hl hh
    match vs,hl with
    | [v1, v2], _ =>
      have h1:=hh 0 _ v1 rfl rfl
      have h2:=hh 1 _ v2 rfl rfl
      cases h1; cases h2
      exact ⟨_,by simp [execOp,ho,hv,Instr.makeInterface,run_under hu],.raw _ _⟩
theorem sem_iface {T : TypeId} {fs : Array Field} {x : Operand} (ho : o'.op = .makeInterface T x) (hu : P.underlying T = some (.struct fs)) (hR : R .any e H g) : SemOp P X M ks (.oth o') e H g R :=
  sem_same (fun w A β a h hW henv=>⟨.iface T (a.eval x),by simp [execOp,ho,Instr.makeInterface,run_under hu],.any _ _⟩) hR
theorem sem_assert {T xt : TypeId} {fs : Array Field} {x : Operand} {u : Value} {s : SV} {k : Int} (ho : o'.op = .typeAssert x xt T true) (hu : P.underlying T = some (.struct fs)) (hx : ev e (cOpd x) = .raw (.iface T (.agg #[u,.int .i64 k]))) (hX : ∀ w A β,X w A β -> Rep w A [] s u) (hR : R (.tup [.agg [s,.int .i64 k],.bool true]) e H g) : SemOp P X M ks (.oth o') e H g R:=by
  refine sem_same (fun w A β a h hW henv=>?_) hR
  have hr:=env_at henv hx
  generalize hv : a.eval x = v at hr
  cases hr
  have h1:=(hX w A β h).more β fun k b h=>by simp at h
  refine ⟨.tuple #[.agg #[u,.int .i64 k],.bool true],by simp [execOp,ho,hv,Instr.typeAssert,run_under hu],.tup _ _ [.agg #[u,.int .i64 k],.bool true] rfl fun i f v h2 h3=>?_⟩
  match i with
  | 0 =>
    simp at h2 h3; subst h2 h3
    refine .agg _ _ [u,.int .i64 k] rfl fun i f v h2 h3=>?_
    match i with
    | 0=>simp at h2 h3; subst h2 h3; exact h1
    | 1=>simp at h2 h3; subst h2 h3; exact .int _ _ _
    | i + 2=>simp at h2
  | 1=>simp at h2 h3; subst h2 h3; exact .bool _ _
  | i + 2=>simp at h2
theorem HX.enter {f : FuncId} {args : List SV} {res : SV} {H' : List Blk} {js : List Nat} (h : HX P f X args H res H' js) (vs : Array Value) (w : World) : (callFunc f vs).run P w = .ok (.enter f vs) w:=by
  simp only [HX] at h
  exact h.1 vs w
theorem HX.calls {f : FuncId} {args : List SV} {res : SV} {H' : List Blk} {js : List Nat} (h : HX P f X args H res H' js) {w : World} {A : Nat -> Prop} {β : List (Option Nat)} {vs : List Value} (hfin : ∀ b,A b -> b < w.heap.size) (hW : WRel w A β H) (hX : X w A β) (hr : Reps w A β args vs) :
    Calls P f vs.toArray w fun e w'=>∃ (v : Value) (A' : Nat -> Prop) (β' : List (Option Nat)),e = .returned v /\ X w' A' β' /\ Cur w A β H.length js w' A' β' H' /\ Rep w' A' β' res v:=by
  simp only [HX] at h
  exact h.2 w A β vs hfin hW hX hr
theorem HX.less {f : FuncId} {args : List SV} {res : SV} {H' H'' : List Blk} {js : List Nat} (h : HX P f X args H res H' js) (hl : ∀ w A β,WRel w A β H' -> WRel w A β H'') : HX P f X args H res H'' js:=by
  simp only [HX]
  refine ⟨h.enter,fun w A β vs hfin hW hX hr=>(h.calls hfin hW hX hr).mono ?_⟩
  rintro e w' ⟨v,A',β',he,hX',hc,hrep⟩
  exact ⟨v,A',β',he,hX',⟨hl _ _ _ hc.rel,hc.fin,hc.frm,hc.agree,hc.fresh,hc.same,hc.more⟩,hrep⟩
theorem sem_behind {o : Oper} {f : FuncId} {args : List SV} {res : SV} {H' : List Blk} {js : List Nat} {w : World} {A : Nat -> Prop} {β : List (Option Nat)} {a : Act} {vs : List Value} (h : HX P f X args H res H' js) (hjs : ∀ j ∈ js,M <= j \/ j ∈ ks) (_hM : M <= H.length) (hR : R res (killEs js e) H' g)
    (hX : X w A β) (hfin : ∀ b,A b -> b < w.heap.size) (hW : WRel w A β H) (henv : EnvRel w A β e a.tmps) (hr : Reps w A β args vs) (hrun : (execOp a.eval o).run P w = .ok (.enter f vs.toArray) w) :
    rel P o a w fun v w'=>∃ (sv : SV) (e2 : Env) (H2 : List Blk) (A' : Nat -> Prop) (β' : List (Option Nat)),R sv e2 H2 g /\ X w' A' β' /\ Cur w A β M ks w' A' β' H2 /\ EnvRel w' A' β' e2 a.tmps /\ Rep w' A' β' sv v:=by
  unfold rel
  rw [hrun]
  refine (h.calls hfin hW hX hr).mono ?_
  rintro e' w' ⟨v,A',β',rfl,hX',hc,hrep⟩
  have hl:=hW.len
  refine ⟨v,rfl,res,_,_,A',β',hR,hX',hc.widen fun k hk h=>?_,?_,hrep⟩
  . rcases h with h | h
    . omega
    . exact hjs k h
  . refine EnvRel.kills (hc.frm.stp fun k b hk=>(hW.own k b hk).1) (fun b hb ha=>(hc.agree b hb).1 ha) js e henv fun j b hj hb=>?_
    have hjl:=(List.getElem?_eq_some_iff.1 hb).1
    rw [hc.same j hjl fun h=>h.elim (fun h=>by omega) hj]; exact hb
theorem sem_call {fo : Opd} {xs : List Opd} {fn : FuncId} {args : List SV} {res : SV} {H' : List Blk} {js : List Nat} (hf : ev e fo = .fn fn []) (ha : xs.map (ev e) = args) (h : HX P fn X args H res H' js) (hjs : ∀ j ∈ js,M <= j \/ j ∈ ks) (hM : M <= H.length) (hR : R res (killEs js e) H' g) : SemOp P X M ks (.call fo xs) e H g R:=by
  simp only [SemOp]
  intro o hc w A β a hX hfin hW henv
  obtain ⟨c,f',ho,hcf,rfl,rfl⟩:=cop_call hc
  have hr' : ∀ x,x ∈ o.op.operands -> Rep w A β (ev e (cOpd x)) (a.eval x):=fun x hx=>ev_rep x fun t _=>henv t
  have hfrep:=hr' f' (by simp [ho,Op.operands,Call.operands,hcf])
  rw [hf] at hfrep
  have hargs:=map_reps (e:=e) (a:=a) c.args.toList fun x hx=>hr' x (by simp [ho,Op.operands,Call.operands,hcf]; exact .inr (by simpa using hx))
  rw [ha] at hargs
  generalize hav : a.eval f' = v at hfrep
  cases hfrep
  rename_i vs hl hh
  have : vs = []:=List.eq_nil_of_length_eq_zero (by simpa using hl)
  subst this
  refine sem_behind h hjs hM hR hX hfin hW henv hargs ?_
  simp only [execOp,ho,resolve,hcf,hav,Deferred.ofValue,Sem.run_bind,Sem.run_pure,Result.andThen_ok,invoke]
  have : (#[] ++ c.args.map a.eval ++ ([] : List Value).toArray) = (c.args.toList.map a.eval).toArray:=by
    apply Array.ext'; simp
  rw [this]
  exact h.enter _ _
theorem sem_invoke {c : Call} {r : Operand} {name : String} {T : TypeId} {v0 : Value} {fn : FuncId} {self : SV} {args : List SV} {res : SV} {H' : List Blk} {js : List Nat} (ho : o'.op = .call c) (hcf : c.callee = .invoke r name) (hr : ev e (cOpd r) = .raw (.iface T v0))
    (hm : ∀ w A β,X w A β -> WRel w A β H -> ∃ rv,(∀ vs,(callMethod (.iface T v0) name vs).run P w = (callFunc fn (#[rv] ++ vs)).run P w) /\ Rep w A β self rv)
    (ha : c.args.toList.map (fun x=>ev e (cOpd x)) = args) (h : HX P fn X (self::args) H res H' js) (hjs : ∀ j ∈ js,M <= j \/ j ∈ ks) (hM : M <= H.length) (hR : R res (killEs js e) H' g) : SemOp P X M ks (.oth o') e H g R:=by
  simp only [SemOp]
  intro o hc w A β a hX hfin hW henv
  obtain rfl:=oth_eq hc
  have hrr:=env_at henv hr
  obtain ⟨rv,hrun,hself⟩:=hm w A β hX hW
  have hargs : Reps w A β args (c.args.toList.map a.eval):=by
    rw [<- ha,show c.args.toList.map (fun x=>ev e (cOpd x)) = (c.args.toList.map cOpd).map (ev e) by simp]
    exact map_reps (e:=e) (a:=a) c.args.toList fun x _=>ev_rep x fun t _=>henv t
  have hall : Reps w A β (self::args) (rv::c.args.toList.map a.eval):=reps_append (fs:=[self]) (us:=[rv]) ⟨rfl,fun i f v h1 h2=>by
    match i with
    | 0=>obtain rfl : self = f:=Option.some.inj h1; obtain rfl : rv = v:=Option.some.inj h2; exact hself
    | i + 1=>cases h1⟩ hargs
  refine sem_behind h hjs hM hR hX hfin hW henv hall ?_
  generalize hav : a.eval r = v at hrr
  cases hrr
  have he : ((#[Value.iface T v0] ++ c.args.map a.eval)[0]?) = some (.iface T v0):=by simp [Array.getElem?_append]
  have he2 : (#[Value.iface T v0] ++ c.args.map a.eval).extract 1 (#[Value.iface T v0] ++ c.args.map a.eval).size = c.args.map a.eval:=by simp
  simp only [execOp,ho,resolve,hcf,hav,Sem.run_bind,Sem.run_pure,Result.andThen_ok,invoke,he,he2,hrun]
  have : (#[rv] ++ c.args.map a.eval) = (rv::c.args.toList.map a.eval).toArray:=by
    apply Array.ext'; simp
  rw [this]
  exact h.enter _ _
theorem sem_len {u : Value} {t wd : Nat} {xs : List (List SV)} (hx : ev e (.t t) = .raw u) (hX : ∀ w A β,X w A β -> Rep w A [] (.slc wd xs) u) {n : Nat} (hK : Known n M ks X) (hR : R (.int .i64 xs.length) e H g) : SemOp P X M ks (.ln (.t t)) e H g R:=by
  simp only [SemOp]
  intro o hc w A β a h hfin hW henv
  have hrep:=(hX w A β h).more β fun k b h=>by simp at h
  obtain ⟨sv,hsv,hg⟩:=pop_sound (e:=(t,.slc wd xs)::e) (H:=H) (K:=fun sv=>sv = .int .i64 xs.length) hc (by simp [pop,ev,YtelbhbadkbcakaaGreat.look])
  subst hsv
  refine rel_mono (hg w A β a hfin hW.wb fun t' _=>?_) fun v w' ⟨hb,hr⟩=>?_
  . by_cases ht : t = t'
    . subst ht
      have hu:=henv t
      rw [show YtelbhbadkbcakaaGreat.look e t = .raw u from hx] at hu
      generalize hv : a.tmps.getD t undef = v at hu
      cases hu
      simpa [YtelbhbadkbcakaaGreat.look,hv] using hrep
    . simpa [YtelbhbadkbcakaaGreat.look,ht] using henv t'
  . have hcur : Cur w A β M ks w A β H:=Cur.start hW hfin
    exact ⟨_,e,H,A,β,hR,hK.stab _ _ _ _ _ _ _ h (hcur.below hb),hcur.below hb,henv.mono (Stp.below hb) (fun _ _ h=>h) (fun _ _ h=>h),hr⟩
end
end
section
open Go.RowKit
attribute [local irreducible] FS FO IT HS
abbrev Hd:=List (Int × Int) × Int
def hds (L : List Hd) : List (List SV):=L.map fun x=>[SM x.1,.int .i64 x.2]
theorem hds_len (L : List Hd) : (hds L).length = L.length:=by simp [hds]
theorem hds_append (L M : List Hd) : hds (L ++ M) = hds L ++ hds M:=by simp [hds]
theorem hds_ld {L : List Hd} {x : Hd} {q i : Nat} {K : List SV -> Prop} (hq : q = i) (hi : i < L.length) (hx : L.getD i ([],0) = x) (h : K [SM x.1,.int .i64 x.2]) : ∃ y,(hds L)[q]? = some y /\ K y:=by
  subst hq hx
  exact ⟨[SM (L.getD q ([],0)).1,.int .i64 (L.getD q ([],0)).2],by simp [hds,hi],h⟩
theorem hds_set {L : List Hd} {q : Nat} {y : Hd} : (hds L).set q [SM y.1,.int .i64 y.2] = hds (L.set q y):=by simp [hds,List.map_set]
def HM (r : Int) (L : List Hd) (O : List (Int × Int)) : List Blk:=[.vars [.osl 1 2 0 L.length,.int .i64 r,.osl 2 3 0 O.length],.arr 2 (hds L),.arr 3 (sms O)]
def ir_push_heads_Len : IR :=
(.seq (.reg (⟨some 2,.mv (.c (.int .i64 0)),none⟩::[])) (.seq (.reg (⟨some 3,.mv (.t 0),none⟩::⟨some 4,.ln (.t 3),none⟩::⟨some 2,.mv (.t 4),none⟩::[])) .ret))
theorem cd_push_heads_Len : Code1 Tryz.prog 60 5 ir_push_heads_Len [.t 2]:=⟨Tryz.call60,_,_,Tryz.func60,rfl,by kernel_rfl,by kernel_rfl,by kernel_rfl,by kernel_rfl⟩
theorem hs_Len (r : Int) (L : List Hd) (O : List (Int × Int)) : HS Tryz.prog 60 [.osl 1 2 0 L.length] (HM r L O) (.int .i64 L.length) (HM r L O) []:=by
  refine hs_of_cvc mixed cd_push_heads_Len (by simp) ?_
  repeat' (conv=>whnf); first | refine And.intro rfl ?_ | fail
  exact ⟨⟨rfl,rfl,rfl,trivial⟩,rfl,rfl,trivial⟩
def ltH (x y : Hd) : Bool:=decide (or2 (cmpI (x.1.getD 0 (0,0)).1 (y.1.getD 0 (0,0)).1) (cmpI x.2 y.2) < 0)
def ir_push_heads_Less : IR :=
(.seq (.reg (⟨some 6,.mv (.c (.bool false)),none⟩::[])) (.seq (.draw (⟨some 7,.mv (.t 0),none⟩::⟨some 8,.mv (.t 1),none⟩::⟨some 9,.ia 2 (.t 7) (.t 8),none⟩::⟨some 10,.fa 0 (.t 9),none⟩::⟨some 11,.ld 1 false (.t 10),none⟩::⟨some 12,.ia 3 (.t 11) (.c (.int .i64 0)),none⟩::⟨some 13,.fa 0 (.t 12),none⟩::⟨some 14,.ld 1 false (.t 13),none⟩::⟨some 15,.mv (.t 0),none⟩::⟨some 16,.mv (.t 2),none⟩::⟨some 17,.ia 2 (.t 15) (.t 16),none⟩::⟨some 18,.fa 0 (.t 17),none⟩::⟨some 19,.ld 1 false (.t 18),none⟩::⟨some 20,.ia 3 (.t 19) (.c (.int .i64 0)),none⟩::⟨some 21,.fa 0 (.t 20),none⟩::⟨some 22,.ld 1 false (.t 21),none⟩::⟨some 23,.call (.c (.fn 100 [])) [(.t 14),(.t 22)],none⟩::⟨some 24,.mv (.t 0),none⟩::⟨some 25,.mv (.t 1),none⟩::⟨some 26,.ia 2 (.t 24) (.t 25),none⟩::⟨some 27,.fa 1 (.t 26),none⟩::⟨some 28,.ld 1 false (.t 27),none⟩::⟨some 29,.mv (.t 0),none⟩::⟨some 30,.mv (.t 2),none⟩::⟨some 31,.ia 2 (.t 29) (.t 30),none⟩::⟨some 32,.fa 1 (.t 31),none⟩::⟨some 33,.ld 1 false (.t 32),none⟩::[]) (⟨some 34,.call (.c (.fn 100 [])) [(.t 28),(.t 33)],none⟩::⟨some 35,.bsl 2 1 [.int .i64 0] [(0,(.t 23)),(1,(.t 34))],none⟩::⟨some 36,.call (.c (.fn 99 [])) [(.t 35)],none⟩::⟨some 37,.bin .lss (.t 36) (.c (.int .i64 0)),none⟩::⟨some 6,.mv (.t 37),none⟩::[])) .ret))
theorem cd_push_heads_Less : Code1 Tryz.prog 187 38 ir_push_heads_Less [.t 6]:=⟨Tryz.call187,_,_,Tryz.func187,rfl,by kernel_rfl,by kernel_rfl,by kernel_rfl,by kernel_rfl⟩
theorem hs_Less (r : Int) (L : List Hd) (O : List (Int × Int)) (i j : Nat) (hi : i < L.length) (hj : j < L.length) (hL : ∀ x ∈ L,0 < x.1.length) (_hl : L.length <= 1000000000) : HS Tryz.prog 187 [.osl 1 2 0 L.length,.int .i64 (i : Int),.int .i64 (j : Int)] (HM r L O) (.bool (ltH (L.getD i ([],0)) (L.getD j ([],0)))) (HM r L O) []:=by
  refine hs_of_cvc mixed cd_push_heads_Less (by simp) ?_
  have c1:=fs_or2 (cmpI (((L.getD i ([],0)).1.getD 0 (0,0)).1) (((L.getD j ([],0)).1.getD 0 (0,0)).1)) (cmpI (L.getD i ([],0)).2 (L.getD j ([],0)).2)
  have m1:=hL _ (List.mem_of_getElem? (List.getElem?_eq_getElem hi))
  have m2:=hL _ (List.mem_of_getElem? (List.getElem?_eq_getElem hj))
  have g1 : L.getD i ([],0) = L[i]:=by simp [hi]
  have g2 : L.getD j ([],0) = L[j]:=by simp [hj]
  rw [<- g1] at m1
  rw [<- g2] at m2
  repeat' (conv=>whnf); first |(refine hds_ld (i:=i) (by omega) hi rfl ?_) |(refine hds_ld (i:=j) (by omega) hj rfl ?_) |(refine sms_go (i:=0) (by omega) rfl ?_) |(refine Or.inl ⟨by rfl,_,fs_cmp _ _,?_⟩) |(refine Or.inl ⟨by rfl,_,c1,?_⟩) | refine And.intro rfl ?_ |(refine And.intro (by omega) ?_) |(refine And.intro (by simp only [lens_all,sms_len]; first | done | omega) ?_) | fail
  exact ⟨⟨rfl,rfl,rfl,trivial⟩,rfl,rfl,trivial⟩
def swpL (L : List Hd) (i j : Nat) : List Hd:=(L.set i (L.getD j ([],0))).set j (L.getD i ([],0))
def ir_push_heads_Swap : IR :=
(.draw (⟨some 6,.mv (.t 0),none⟩::⟨some 7,.mv (.t 1),none⟩::⟨some 8,.mv (.t 0),none⟩::⟨some 9,.mv (.t 2),none⟩::⟨some 10,.mv (.t 0),none⟩::⟨some 11,.mv (.t 2),none⟩::⟨some 12,.ia 2 (.t 10) (.t 11),none⟩::⟨some 13,.ld 2 true (.t 12),none⟩::⟨some 14,.mv (.t 0),none⟩::⟨some 15,.mv (.t 1),none⟩::⟨some 16,.ia 2 (.t 14) (.t 15),none⟩::⟨some 17,.ld 2 true (.t 16),none⟩::⟨some 18,.ia 2 (.t 6) (.t 7),none⟩::[]) (⟨none,.st 2 (.t 18) (.t 13),none⟩::⟨some 19,.ia 2 (.t 8) (.t 9),none⟩::⟨none,.st 2 (.t 19) (.t 17),none⟩::[]))
theorem cd_push_heads_Swap : Code1 Tryz.prog 190 20 ir_push_heads_Swap []:=⟨Tryz.call190,_,_,Tryz.func190,rfl,by kernel_rfl,by kernel_rfl,by kernel_rfl,by kernel_rfl⟩
theorem hs_Swap (r : Int) (L : List Hd) (O : List (Int × Int)) (i j : Nat) (hi : i < L.length) (hj : j < L.length) (_hl : L.length <= 1000000000) : HS Tryz.prog 190 [.osl 1 2 0 L.length,.int .i64 (i : Int),.int .i64 (j : Int)] (HM r L O) (.tup []) (HM r (swpL L i j) O) []:=by
  refine hs_of_cvc mixed cd_push_heads_Swap (by simp) ?_
  repeat' (conv=>whnf); first |(refine hds_ld (i:=i) (by omega) hi rfl ?_) |(refine hds_ld (i:=j) (by omega) hj rfl ?_) | refine And.intro rfl ?_ |(refine And.intro (by omega) ?_) |(refine And.intro (by simp only [lens_all]; first | done | omega) ?_) | fail
  refine ⟨[SM ((L.set i (L.getD j ([],0))).getD j ([],0)).1,.int .i64 ((L.set i (L.getD j ([],0))).getD j ([],0)).2],?_,?_⟩
  . show ((hds L).set (0 + (i : Int).toNat) [SM (L.getD j ([],0)).1,.int .i64 (L.getD j ([],0)).2])[0 + (j : Int).toNat]? = _
    rw [show 0 + (i : Int).toNat = i by omega,show 0 + (j : Int).toNat = j by omega,hds_set]
    rw [hds,List.getElem?_map,List.getElem?_eq_getElem (by simpa using hj),Option.map_some]
    simp [hj]
  repeat' (conv=>whnf); first | refine And.intro rfl ?_ | fail
  have hsl : (swpL L i j).length = L.length:=by simp [swpL]
  refine ⟨⟨?_,rfl,rfl,trivial⟩,?_,rfl,trivial⟩
  . show SV.osl 1 2 0 L.length = SV.osl 1 2 0 _
    rw [hsl]
  show Blk.arr 2 (((hds L).set (0 + (i : Int).toNat) [SM (L.getD j ([],0)).1,.int .i64 (L.getD j ([],0)).2]).set (0 + (j : Int).toNat) [SM (L.getD i ([],0)).1,.int .i64 (L.getD i ([],0)).2]) = _
  rw [show 0 + (i : Int).toNat = i by omega,show 0 + (j : Int).toNat = j by omega,hds_set,hds_set]
  rfl
noncomputable def ir_push_heads_Pop : IR :=
(.seq (.reg (⟨some 2,.mv (.c (.raw .nilIface)),none⟩::[])) (.seq (.reg (⟨some 5,.mv (.t 0),none⟩::⟨some 6,.ck (.t 5),none⟩::⟨some 7,.ld 1 false (.t 6),none⟩::⟨some 8,.ln (.t 7),none⟩::⟨some 9,.bin .sub (.t 8) (.c (.int .i64 1)),none⟩::⟨some 3,.mv (.t 9),none⟩::[])) (.seq (.reg (⟨some 10,.mv (.t 0),none⟩::⟨some 11,.ck (.t 10),none⟩::⟨some 12,.ld 1 false (.t 11),none⟩::⟨some 13,.mv (.t 3),none⟩::⟨some 14,.ia 2 (.t 12) (.t 13),none⟩::⟨some 15,.ld 2 true (.t 14),none⟩::⟨some 4,.al [.nils,.int .i64 0],none⟩::⟨none,.st 2 (.t 4) (.t 15),none⟩::[])) (.seq (.reg (⟨some 16,.mv (.t 0),none⟩::⟨some 17,.mv (.t 0),none⟩::⟨some 18,.ck (.t 17),none⟩::⟨some 19,.ld 1 false (.t 18),none⟩::⟨some 20,.mv (.t 3),none⟩::⟨some 21,.sl 2 (.t 19) none (some (.t 20)) none,none⟩::⟨some 22,.ck (.t 16),none⟩::⟨none,.st 1 (.t 22) (.t 21),none⟩::[])) (.seq (.reg (⟨some 23,.ld 2 true (.t 4),none⟩::⟨some 24,.oth (opAt Tryz.f188 24),none⟩::⟨some 2,.mv (.t 24),none⟩::[])) .ret)))))
theorem cd_push_heads_Pop : Code1 Tryz.prog 188 25 ir_push_heads_Pop [.t 2]:=⟨Tryz.call188,_,_,Tryz.func188,rfl,by kernel_rfl,by kernel_rfl,by kernel_rfl,by kernel_rfl⟩
theorem hx_hPop {X : World -> (Nat -> Prop) -> List (Option Nat) -> Prop} (hK : Known 3 3 [] X) (r : Int) (L : List Hd) (n : Nat) (hn : L.length = n + 1) (O : List (Int × Int)) (hl : L.length <= 1000000000) : HX Tryz.prog 188 X [.ptr 0 1 0 0] (HM r L O) .any [.vars [.osl 1 2 0 n,.int .i64 r,.osl 2 3 0 O.length],.arr 2 (hds L),.arr 3 (sms O)] []:=by
  refine hx_of_cvc mixed cd_push_heads_Pop hK (by simp) ?_
  repeat' (conv=>whnf); first |(refine sem_iface rfl Tryz.underlying150 ?_) |(refine hds_ld (i:=n) (by omega) (by omega) rfl ?_) | refine And.intro rfl ?_ |(refine And.intro (by omega) ?_) |(refine ⟨_,Or.inl ⟨⟨by omega,by omega⟩,rfl⟩,?_⟩) |(refine And.intro (by simp only [lens_all]; first | done | omega) ?_) | fail
  have e1 : ((L.length : Int) - 1).toNat - Int.toNat 0 = n:=by omega
  refine ⟨trivial,⟨?_,rfl,rfl,trivial⟩,rfl,rfl,Nat.le_refl _,rfl,rfl⟩
  show SV.osl 1 2 (0 + Int.toNat 0) (((L.length : Int) - 1).toNat - Int.toNat 0) = _
  rw [e1]
  rfl
noncomputable def ir_push_heads_Push : IR :=
(.seq (.reg (⟨some 7,.mv (.t 1),none⟩::⟨some 8,.oth (opAt Tryz.f189 1),none⟩::⟨some 6,.mv (.t 8),none⟩::⟨some 9,.ex 0 (.t 6),none⟩::⟨some 10,.ex 1 (.t 6),none⟩::⟨some 4,.al [.nils,.int .i64 0],none⟩::⟨none,.st 2 (.t 4) (.t 9),none⟩::⟨some 5,.mv (.t 10),none⟩::[])) (.seq (.reg (⟨some 11,.mv (.t 5),none⟩::[])) (.cond (.t 11) (.draw (⟨some 12,.mv (.t 0),none⟩::⟨some 13,.mv (.t 0),none⟩::⟨some 14,.ck (.t 13),none⟩::⟨some 15,.ld 1 false (.t 14),none⟩::⟨some 16,.ld 2 true (.t 4),none⟩::⟨some 17,.bsl 1 2 [.nils,.int .i64 0] [(0,(.t 16))],none⟩::[]) (⟨some 18,.ap 2 32 (.t 15) (.t 17),none⟩::⟨some 19,.ck (.t 12),none⟩::⟨none,.st 1 (.t 19) (.t 18),none⟩::[])) .skip)))
theorem cd_push_heads_Push : Code1 Tryz.prog 189 20 ir_push_heads_Push []:=⟨Tryz.call189,_,_,Tryz.func189,rfl,by kernel_rfl,by kernel_rfl,by kernel_rfl,by kernel_rfl⟩
theorem hx_hPush {X : World -> (Nat -> Prop) -> List (Option Nat) -> Prop} (hK : Known 3 3 [1] X) (r : Int) (L : List Hd) (l : List (Int × Int)) (k : Int) (u : Value) (hX : ∀ w A β,X w A β -> Rep w A [] (SM l) u) (O : List (Int × Int)) (hl : L.length <= 1000000000) : HX Tryz.prog 189 X [.ptr 0 1 0 0,.raw (.iface 150 (.agg #[u,.int .i64 k]))] (HM r L O) (.tup []) (HM r (L ++ [(l,k)]) O) [1]:=by
  refine hx_of_cvc mixed cd_push_heads_Push hK (by simp) ?_
  repeat' (conv=>whnf); first |(refine sem_assert rfl Tryz.underlying150 rfl hX ?_) | refine Br.tt ?_ | refine And.intro rfl ?_ |(refine And.intro (by simp only [lens_all,hds_len]; first | done | omega) ?_) | fail
  refine ⟨Or.inr (List.mem_singleton.2 rfl),(show (L.length + 1) * 32 <= _ by omega),(show L.length + 1 <= _ by omega),fun y hy=>?_,?_⟩
  . obtain rfl : y = [SM l,.int .i64 k]:=List.mem_singleton.1 hy
    rfl
  repeat' (conv=>whnf); first | refine And.intro rfl ?_ |(refine And.intro (by simp only [lens_all]; first | done | omega) ?_) | fail
  refine ⟨⟨?_,rfl,rfl,trivial⟩,?_,rfl,Nat.le_refl _,rfl,rfl⟩
  . show SV.osl 1 2 0 (L.length + 1) = SV.osl 1 2 0 (L ++ [(l,k)]).length
    simp
  . show Blk.arr 2 (hds L ++ [[SM l,.int .i64 k]]) = Blk.arr 2 (hds (L ++ [(l,k)]))
    rw [hds_append]; rfl
end
section
open Go.RowKit
attribute [local irreducible] FS FO IT HS
theorem Known.sub {n M : Nat} {ks : List Nat} {X : World -> (Nat -> Prop) -> List (Option Nat) -> Prop} (h : Known n M ks X) : Known n M [] X where
  stab:=fun w A β w2 A2 β2 H2 hX hc=>h.stab w A β w2 A2 β2 H2 hX (hc.widen fun k _ hk=>hk.elim .inl fun h=>by simp at h)
  names:=h.names
/-! ### Which method stands behind the interface -/
def hpI (b : Nat) : Value:=.iface 148 (.pointer (some ⟨b,0,none⟩))
theorem run_hPush (a : Addr) (vs : Array Value) (w : World) : (callMethod (.iface 148 (.pointer (some a))) "Push" vs).run Tryz.prog w = (callFunc 189 (#[.pointer (some a)] ++ vs)).run Tryz.prog w := by kernel_rfl
theorem run_hPop (a : Addr) (vs : Array Value) (w : World) : (callMethod (.iface 148 (.pointer (some a))) "Pop" vs).run Tryz.prog w = (callFunc 188 (#[.pointer (some a)] ++ vs)).run Tryz.prog w := by kernel_rfl
theorem run_hLen (a : Addr) (vs : Array Value) (w : World) : (callMethod (.iface 148 (.pointer (some a))) "Len" vs).run Tryz.prog w = (do let v ← loadVar 118 a; callFunc 60 (#[v] ++ vs)).run Tryz.prog w := by kernel_rfl
theorem run_hLess (a : Addr) (vs : Array Value) (w : World) : (callMethod (.iface 148 (.pointer (some a))) "Less" vs).run Tryz.prog w = (do let v ← loadVar 118 a; callFunc 187 (#[v] ++ vs)).run Tryz.prog w := by kernel_rfl
theorem run_hSwap (a : Addr) (vs : Array Value) (w : World) : (callMethod (.iface 148 (.pointer (some a))) "Swap" vs).run Tryz.prog w = (do let v ← loadVar 118 a; callFunc 190 (#[v] ++ vs)).run Tryz.prog w := by kernel_rfl
section
variable {X : World -> (Nat -> Prop) -> List (Option Nat) -> Prop} {b : Nat} (hX0 : ∀ w A β,X w A β -> β[0]? = some (some b)) {r : Int} {L : List Hd} {O : List (Int × Int)}
include hX0
theorem at_ptr {name : String} {fn : FuncId} (h : ∀ (a : Addr) (vs : Array Value) (w : World),(callMethod (.iface 148 (.pointer (some a))) name vs).run Tryz.prog w = (callFunc fn (#[.pointer (some a)] ++ vs)).run Tryz.prog w) {H : List Blk} : ∀ w A β,X w A β -> WRel w A β H -> ∃ rv,(∀ vs,(callMethod (hpI b) name vs).run Tryz.prog w = (callFunc fn (#[rv] ++ vs)).run Tryz.prog w) /\ Rep w A β (.ptr 0 1 0 0) rv :=
  fun w A β hX _=>⟨.pointer (some ⟨b,0,none⟩),fun vs=>h _ vs w,.ptr _ 0 1 0 0 b (hX0 w A β hX)⟩
theorem at_val {name : String} {fn : FuncId} (h : ∀ (a : Addr) (vs : Array Value) (w : World),(callMethod (.iface 148 (.pointer (some a))) name vs).run Tryz.prog w = (do let v <- loadVar 118 a; callFunc fn (#[v] ++ vs)).run Tryz.prog w) : ∀ w A β,X w A β -> WRel w A β (HM r L O) -> ∃ rv,(∀ vs,(callMethod (hpI b) name vs).run Tryz.prog w = (callFunc fn (#[rv] ++ vs)).run Tryz.prog w) /\ Rep w A β (.osl 1 2 0 L.length) rv:=by
  intro w A β hX hW
  obtain ⟨cs,T,hb,hl,hc⟩:=hW.blk 0 (some b) _ (hX0 w A β hX) rfl
  obtain ⟨v,hv⟩ : ∃ v,cs[0]? = some v:=⟨_,List.getElem?_eq_getElem (by rw [hl]; exact Nat.succ_pos _)⟩
  refine ⟨v,fun vs=>?_,hc 0 _ v rfl hv⟩
  rw [hpI,h]
  have hcell : w.cell? ⟨b,0,none⟩ = some v:=by simp [World.cell?,hb,hv]
  simp [loadVar,isAgg,underlying,Tryz.underlying118,hcell,Result.andThen]
end
end
end Go.Proofs.YtelbhbadkbcakaaGreat
