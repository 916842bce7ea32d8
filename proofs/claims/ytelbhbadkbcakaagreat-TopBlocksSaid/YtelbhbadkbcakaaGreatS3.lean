/- A region that draws its order: one walk in the order of the text serves every order. The world bears a ghost beside it (whose blocks are whose). Copy, calls; all operations in one. A region that draws its order: the law. What is to be shown of code. What is shown of code is what it does: regions in the order of their text. -/
import Derived.Test.YtelbhbadkbcakaaGreatS1
import Derived.Test.YtelbhbadkbcakaaGreatS2
import Derived.RangeFuncIn
namespace Go.Proofs.YtelbhbadkbcakaaGreat
section
open Go.RowKit
abbrev Fact (γ : Type):=Value -> World × γ -> Prop
def upd {γ : Type} (C : Tmp -> Fact γ) (d : Option Tmp) (F : Fact γ) : Tmp -> Fact γ:=fun t=>if d = some t then F else C t
def Cat {γ : Type} (ops : Array Oper) (F : Nat -> Fact γ) (C0 : Tmp -> Fact γ) : Nat -> Tmp -> Fact γ
  | 0=>C0
  | j + 1=>upd (Cat ops F C0 j) ((ops[j]?).bind (·.dst)) (F j)
def Stable {γ : Type} (R : World × γ -> World × γ -> Prop) (F : Fact γ) : Prop:=∀ v s s',R s s' -> F v s -> F v s'
section
variable {γ : Type} {P : Program} {ops : Array Oper} {R : World × γ -> World × γ -> Prop} {U : Nat -> World × γ -> Prop} {s0 : World × γ}
def Obl (P : Program) (ops : Array Oper) (R : World × γ → World × γ → Prop) (U : Nat → World × γ → Prop) (s0 : World × γ) (N : Nat) (D : List Deferred) (C : Tmp → Fact γ) (j : Nat) (o : Oper) (F : Fact γ) : Prop :=
  Stable R F /\ ∀ (a : Act) (s : World × γ),R s0 s -> U j s -> a.defers = D -> a.tmps.size = N -> (∀ t ∈ o.looksAt ops,C t (a.tmps.getD t undef) s) ->
    if Region.wanted o (yielded ops a.tmps) = true then rel P o a s.1 fun v w'=>∃ g',R s (w',g') /\ F v (w',g') /\ ∀ k,k ≠ j -> U k s -> U k (w',g') else F undef s
theorem wpIn_of_rel {n : Nat} {o : Oper} {a : Act} {w : World} {K : Value -> World -> Prop} {K' : Act -> World -> Prop} {Q : Exit -> Act -> World -> Prop}
    (h : rel P o a w K) (hk : ∀ v w',K v w' -> K' (a.put o.dst v) w') : o.wpIn Fence.wide n P a w K' Q:=by
  refine ⟨fun _ _=>trivial,?_⟩
  unfold rel at h
  rw [show Fence.wide.round = none from rfl,Oper.semAt_none]
  generalize (execOp a.eval o).run P w = r at *
  cases r with
  | ok x w' =>
    cases x <;> simp only [Oper.relUpon] at h <;> simp only [Oper.uponIn]
    case value u=>exact hk _ _ h
    case skip=>exact hk _ _ h
    case enter f args=>exact ⟨fun h=>by simp [Fence.wide] at h,callsIn_wide.2 (h.mono fun e w'' ⟨v,he,hv⟩=>by subst he; exact hk _ _ hv)⟩
  | halt x w'=>simp only [Oper.relUpon] at h
theorem put_getD (a : Act) (d t : Tmp) (v : Value) : (a.put (some d) v).tmps.getD t undef = if d = t /\ t < a.tmps.size then v else a.tmps.getD t undef:=by
  simp only [Act.put,Array.getD_eq_getD_getElem?,Array.getElem?_setIfInBounds]
  by_cases h : d = t
  . subst h
    by_cases h' : d < a.tmps.size <;> simp [h']
  . simp [h]
section
variable {ops : Array Oper}
end
def Region.waits (md : Region.Mode) (ops : Array Oper) (j i : Nat) : Bool :=
  match ops[j]? with
  | some oj=>oj.after.any fun e=>Region.binds md e && e.on == i
  | none=>false
def Region.pairB (md : Region.Mode) (ops : Array Oper) : Bool :=
  (List.range ops.size).all fun j=>(List.range j).all fun i=>Region.waits md ops j i || match ops[i]?,ops[j]? with
    | some oi,some oj=>oi.apart ops oj
    | _,_=>true
def Region.backB (md : Region.Mode) (ops : Array Oper) : Bool :=
  (List.range ops.size).all fun j=>match ops[j]? with
    | some oj=>oj.after.all fun e=>!Region.binds md e || decide (e.on < j)
    | none=>true
def Region.dstB (ops : Array Oper) (n N : Nat) : Bool :=
  (List.range n).all fun j=>match ops[j]? with
    | some oj=>(match oj.dst with | some d=>decide (d < N) | none=>true) && (oj.looksAt ops).all (fun t=>decide (t < N)) &&
        (List.range j).all fun i=>match ops[i]? with
          | some oi=>(match oi.dst,oj.dst with | some d,some d'=>!(d == d') | _,_=>true)
          | none=>true
    | none=>true
theorem waits_spec {md : Region.Mode} {j i : Nat} (h : Region.waits md ops j i = true) : ∃ oj,ops[j]? = some oj /\ ∃ e ∈ oj.after,Region.binds md e = true /\ e.on = i:=by
  unfold Region.waits at h
  split at h
  . rename_i oj hj
    obtain ⟨e,he,hb⟩:=Array.any_eq_true'.1 h
    simp only [Bool.and_eq_true,beq_iff_eq] at hb
    exact ⟨oj,hj,e,he,hb.1,hb.2⟩
  . cases h
theorem pair_spec {md : Region.Mode} (h : Region.pairB md ops = true) {i j : Nat} {oi oj : Oper} (hij : i < j) (hi : ops[i]? = some oi) (hj : ops[j]? = some oj) :
    (∃ e ∈ oj.after,Region.binds md e = true /\ e.on = i) \/ oi.apart ops oj = true:=by
  have hjs : j < ops.size:=(Array.getElem?_eq_some_iff.1 hj).1
  have h1:=List.all_eq_true.1 (List.all_eq_true.1 h j (List.mem_range.2 hjs)) i (List.mem_range.2 hij)
  simp only [hi,hj,Bool.or_eq_true] at h1
  rcases h1 with h1 | h1
  . obtain ⟨o',ho',e,he⟩:=waits_spec h1
    rw [hj] at ho'
    obtain rfl:=Option.some.inj ho'
    exact .inl ⟨e,he⟩
  . exact .inr h1
theorem back_spec {md : Region.Mode} (h : Region.backB md ops = true) {j : Nat} {oj : Oper} (hj : ops[j]? = some oj) {e : Edge} (he : e ∈ oj.after) (hb : Region.binds md e = true) : e.on < j:=by
  have hjs : j < ops.size:=(Array.getElem?_eq_some_iff.1 hj).1
  have h1:=List.all_eq_true.1 h j (List.mem_range.2 hjs)
  simp only [hj] at h1
  have:=Array.all_eq_true_iff_forall_mem.1 h1 e he
  simpa [hb] using this
theorem dst_spec {n N : Nat} (h : Region.dstB ops n N = true) {j : Nat} {oj : Oper} (hjn : j < n) (hj : ops[j]? = some oj) :
    (∀ d,oj.dst = some d -> d < N) /\ (∀ t ∈ oj.looksAt ops,t < N) /\ ∀ i oi d,i < j -> ops[i]? = some oi -> oi.dst = some d -> oj.dst ≠ some d:=by
  have h1:=List.all_eq_true.1 h j (List.mem_range.2 hjn)
  simp only [hj,Bool.and_eq_true] at h1
  obtain ⟨⟨h1,h2⟩,h3⟩:=h1
  refine ⟨fun d hd=>by simpa [hd] using h1,fun t ht=>by simpa using List.all_eq_true.1 h2 t ht,fun i oi d hi hoi hd hd'=>?_⟩
  have:=List.all_eq_true.1 h3 i (List.mem_range.2 hi)
  simp [hoi,hd,hd'] at this
theorem cat_cases (F : Nat -> Fact γ) (C0 : Tmp -> Fact γ) : ∀ j t,(∃ i oi,i < j /\ ops[i]? = some oi /\ oi.dst = some t /\ Cat ops F C0 j t = F i /\ ∀ k ok,i < k -> k < j -> ops[k]? = some ok -> ok.dst ≠ some t) \/
    ((∀ i oi,i < j -> ops[i]? = some oi -> oi.dst ≠ some t) /\ Cat ops F C0 j t = C0 t)
  | 0,t=>.inr ⟨fun i _ h=>by omega,rfl⟩
  | j + 1, t => by
    by_cases hd : (ops[j]?).bind (·.dst) = some t
    . left
      cases ho : ops[j]? with
      | none=>simp [ho] at hd
      | some oj =>
        simp only [ho,Option.bind_some] at hd
        exact ⟨j,oj,by omega,ho,hd,by simp [Cat,upd,ho,hd],fun k _ h1 h2=>by omega⟩
    . have he : Cat ops F C0 (j + 1) t = Cat ops F C0 j t:=by simp [Cat,upd,hd]
      have hno : ∀ oj,ops[j]? = some oj -> oj.dst ≠ some t:=fun oj ho h=>hd (by simp [ho,h])
      rcases cat_cases F C0 j t with ⟨i,oi,hi,hoi,hdt,hF,hlast⟩ | ⟨h1,h2⟩
      . refine .inl ⟨i,oi,by omega,hoi,hdt,he.trans hF,fun k ok h1 h2 hk=>?_⟩
        by_cases hkj : k = j
        . subst hkj; exact hno ok hk
        . exact hlast k ok h1 (by omega) hk
      . refine .inr ⟨fun i oi hi hoi=>?_,he.trans h2⟩
        by_cases hij : i = j
        . subst hij; exact hno oi hoi
        . exact h1 i oi (by omega) hoi
structure Inv (md : Region.Mode) (ops : Array Oper) (R : World × γ -> World × γ -> Prop) (U : Nat -> World × γ -> Prop) (s0 : World × γ) (F : Nat -> Fact γ) (a0 : Act) (n N : Nat) (listed : Array Bool) (a : Act) (s : World × γ) : Prop where
  head : HeadInv md ops n listed
  step : R s0 s
  size : a.tmps.size = N
  defers : a.defers = a0.defers
  done : ∀ (i : Nat) (oi : Oper) (t : Tmp),i < n -> ops[i]? = some oi -> oi.dst = some t -> listed.getD i false = true -> F i (a.tmps.getD t undef) s
  old : ∀ (t : Tmp),(∀ (i : Nat) (oi : Oper),i < n -> ops[i]? = some oi -> oi.dst = some t -> listed.getD i false = false) -> a.tmps.getD t undef = a0.tmps.getD t undef
  todo : ∀ k,k < n -> listed.getD k false = false -> U k s
section
variable {md : Region.Mode} {F : Nat -> Fact γ} {C0 : Tmp -> Fact γ} {a0 : Act} {n N : Nat} (htr : ∀ a b c,R a b -> R b c -> R a c)
variable (hpair : Region.pairB md ops = true) (hdst : Region.dstB ops n N = true) (hC0 : ∀ t,C0 t (a0.tmps.getD t undef) s0) (hCs : ∀ t,Stable R (C0 t))
variable (hO : ∀ (j : Nat) (oj : Oper),j < n -> ops[j]? = some oj -> Obl P ops R U s0 N a0.defers (Cat ops F C0 j) j oj (F j))
include htr hpair hdst hO hC0 hCs
omit htr hdst hO in
theorem Inv.looks {listed : Array Bool} {a : Act} {s : World × γ} (inv : Inv md ops R U s0 F a0 n N listed a s) {j : Nat} {oj : Oper} (hjn : j < n) (hj : ops[j]? = some oj) (hr : j ∈ Region.ready md ops listed) :
    ∀ t ∈ oj.looksAt ops,Cat ops F C0 j t (a.tmps.getD t undef) s:=by
  intro t ht
  obtain ⟨hun,o',ho',hall⟩:=mem_ready.1 hr
  rw [hj] at ho'
  obtain rfl:=Option.some.inj ho'
  rcases cat_cases (ops:=ops) F C0 j t with ⟨i,oi,hi,hoi,hd,hF,_⟩ | ⟨hno,hC⟩
  . rw [hF]
    refine inv.done i oi t (by omega) hoi hd ?_
    rcases pair_spec hpair hi hoi hj with ⟨e,he,hb,hon⟩ | hap
    . rw [<- hon]; exact hall e he hb
    . exact absurd ht ((Oper.apart_spec hap).1 t hd)
  . rw [hC]
    have : a.tmps.getD t undef = a0.tmps.getD t undef:=inv.old t fun i oi hin hoi hd=>by
      by_cases hij : i < j
      . exact absurd hd (hno i oi hij hoi)
      . by_cases hje : i = j
        . subst hje; exact getD_both hun
        . cases hl : listed.getD i false with
          | false=>rfl
          | true =>
            rcases pair_spec hpair (show j < i by omega) hj hoi with ⟨e,he,hb,hon⟩ | hap
            . have:=inv.head.closed i oi hoi hl e he hb
              rw [hon,getD_both hun] at this
              cases this
            . exact absurd ht ((Oper.apart_spec hap).2.2 t hd)
    rw [this]
    exact hCs t _ _ _ inv.step (hC0 t)
omit hpair hO hC0 hCs in
theorem Inv.put {listed : Array Bool} {a : Act} {s s' : World × γ} (hO : ∀ (j : Nat) (oj : Oper),j < n -> ops[j]? = some oj -> Stable R (F j)) (inv : Inv md ops R U s0 F a0 n N listed a s) {j : Nat} {oj : Oper} (hjn : j < n) (hj : ops[j]? = some oj) (hr : j ∈ Region.ready md ops listed)
    {v : Value} (hR : R s s') (hv : F j v s') (hU : ∀ k,k ≠ j -> U k s -> U k s') : Inv md ops R U s0 F a0 n N (listed.setIfInBounds j true) (a.put oj.dst v) s':=by
  have hjs : j < ops.size:=(Array.getElem?_eq_some_iff.1 hj).1
  have hls : j < listed.size:=by rw [inv.head.size]; exact hjs
  obtain ⟨hdN,_,hun⟩:=dst_spec hdst hjn hj
  have uniq : ∀ (i : Nat) (oi : Oper) (t : Tmp),i < n -> ops[i]? = some oi -> oi.dst = some t -> oj.dst = some t -> i = j:=by
    intro i oi t hin hoi hd hd'
    rcases Nat.lt_trichotomy i j with h | h | h
    . exact absurd hd' (hun i oi t h hoi hd)
    . exact h
    . exact absurd hd ((dst_spec hdst hin hoi).2.2 j oj t h hj hd')
  refine ⟨inv.head.set hr hjn,htr _ _ _ inv.step hR,?_,?_,?_,?_,fun k hk hl=>?_⟩
  case refine_5 =>
    by_cases hjk : j = k
    . subst hjk; simp [Array.getD,hls] at hl
    . rw [getD_set_ne false hjk] at hl
      exact hU k (Ne.symm hjk) (inv.todo k hk hl)
  . cases oj.dst <;> simp [Act.put,inv.size]
  . cases oj.dst <;> simp [Act.put,inv.defers]
  . intro i oi t hin hoi hd hl
    by_cases hij : i = j
    . subst hij
      rw [hj] at hoi
      obtain rfl:=Option.some.inj hoi
      rw [hd,put_getD]
      rw [if_pos ⟨rfl,by rw [inv.size]; exact hdN t hd⟩]
      exact hv
    . rw [getD_set_ne false (Ne.symm hij)] at hl
      have h1:=hO i oi hin hoi _ _ _ hR (inv.done i oi t hin hoi hd hl)
      cases hdj : oj.dst with
      | none=>exact h1
      | some d =>
        rw [put_getD]
        have : d ≠ t:=fun h=>hij (uniq i oi t hin hoi hd (by rw [hdj,h]))
        simpa [this] using h1
  . intro t ht
    have hne : oj.dst ≠ some t:=fun hd=>by
      have:=ht j oj hjn hj hd
      simp [hls] at this
    have h1:=inv.old t fun i oi hin hoi hd=>by
      have:=ht i oi hin hoi hd
      by_cases hij : i = j
      . subst hij
        rw [hj] at hoi
        obtain rfl:=Option.some.inj hoi
        exact absurd hd hne
      . rwa [getD_set_ne false (Ne.symm hij)] at this
    cases hdj : oj.dst with
    | none=>exact h1
    | some d =>
      rw [put_getD]
      have : d ≠ t:=fun h=>hne (by rw [hdj,h])
      simpa [this] using h1
theorem Inv.wpOp {m : Nat} {listed : Array Bool} {a : Act} {s : World × γ} (inv : Inv md ops R U s0 F a0 n N listed a s) {j : Nat} {oj : Oper} (hjn : j < n) (hj : ops[j]? = some oj) (hr : j ∈ Region.ready md ops listed)
    {K : Act -> World -> Prop} {Q' : Exit -> Act -> World -> Prop} (hR : ∀ s,R s s) (hK : ∀ a' s',Inv md ops R U s0 F a0 n N (listed.setIfInBounds j true) a' s' -> K a' s'.1) : wpOpIn Fence.wide m P ops Q' j K a s.1:=by
  obtain ⟨hst,hob⟩:=hO j oj hjn hj
  have h1:=hob a s inv.step (inv.todo j hjn (getD_both (mem_ready.1 hr).1)) inv.defers inv.size (Inv.looks hpair hC0 hCs inv hjn hj hr)
  have hst' : ∀ (j : Nat) (oj : Oper),j < n -> ops[j]? = some oj -> Stable R (F j):=fun j oj h h'=>(hO j oj h h').1
  unfold Go.wpOpIn
  simp only [hj]
  split
  . rename_i hw
    rw [if_pos hw] at h1
    exact wpIn_of_rel h1 fun v w' ⟨g',h2,h3,h4⟩=>hK _ (w',g') (Inv.put htr hdst hst' inv hjn hj hr h2 h3 h4)
  . rename_i hw
    rw [if_neg hw] at h1
    exact ⟨fun _ _=>trivial,hK _ s (Inv.put htr hdst hst' inv hjn hj hr (hR s) h1 fun _ _ h=>h)⟩
end
theorem count_step {listed : Array Bool} {j : Nat} (hj : listed.getD j true = false) (m : Nat) (h : (listed.toList.filter (!·)).length <= m + 1) : ((listed.setIfInBounds j true).toList.filter (!·)).length <= m:=by
  have hlt : j < listed.size:=by
    rcases Nat.lt_or_ge j listed.size with h' | h'
    . exact h'
    . simp [Array.getElem?_eq_none h'] at hj
  have hj' : listed[j] = false:=by simpa [hlt] using hj
  have h1 : (listed.setIfInBounds j true).toList = listed.toList.take j ++ true::listed.toList.drop (j + 1):=by
    simp [List.set_eq_take_append_cons_drop,hlt]
  have h2 : listed.toList = listed.toList.take j ++ false::listed.toList.drop (j + 1):=by
    have e : listed.toList[j]'(by simpa using hlt) = false:=by simpa using hj'
    have:=List.take_append_drop j listed.toList
    rw [List.drop_eq_getElem_cons (by simpa using hlt),e] at this
    exact this.symm
  rw [h1]
  rw [h2] at h
  simp only [List.filter_append,List.filter_cons,List.length_append] at h ⊢
  simp only [Bool.not_true,Bool.not_false] at h ⊢
  simp only [if_true,List.length_cons] at h
  simp
  omega
theorem count_step' {listed : Array Bool} {j : Nat} (hj : listed.getD j true = false) (m : Nat) (h : (listed.toList.filter (!·)).length = m + 1) : ((listed.setIfInBounds j true).toList.filter (!·)).length = m:=by
  have hlt : j < listed.size:=by
    rcases Nat.lt_or_ge j listed.size with h' | h'
    . exact h'
    . simp [Array.getElem?_eq_none h'] at hj
  have hj' : listed[j] = false:=by simpa [hlt] using hj
  have h1 : (listed.setIfInBounds j true).toList = listed.toList.take j ++ true::listed.toList.drop (j + 1):=by
    simp [List.set_eq_take_append_cons_drop,hlt]
  have h2 : listed.toList = listed.toList.take j ++ false::listed.toList.drop (j + 1):=by
    have e : listed.toList[j]'(by simpa using hlt) = false:=by simpa using hj'
    have:=List.take_append_drop j listed.toList
    rw [List.drop_eq_getElem_cons (by simpa using hlt),e] at this
    exact this.symm
  rw [h1]
  rw [h2] at h
  simp only [List.filter_append,List.filter_cons,List.length_append] at h ⊢
  simp only [Bool.not_true,Bool.not_false] at h ⊢
  simp only [if_true,List.length_cons] at h
  simp
  omega
theorem ready_nil_all {md : Region.Mode} {listed : Array Bool} (hback : Region.backB md ops = true) (hs : listed.size = ops.size) (hr : Region.ready md ops listed = []) : ∀ j,j < ops.size -> listed.getD j false = true:=by
  intro j
  induction j using Nat.strongRecOn with
  | _ j ih =>
    intro hj
    cases hl : listed.getD j false with
    | true=>rfl
    | false =>
      have : j ∈ Region.ready md ops listed:=mem_ready.2 ⟨getD_in (by rw [hs]; exact hj) hl,ops[j],by simp [hj],fun e he hb=>by
        have hlt:=back_spec hback (show ops[j]? = some ops[j] by simp [hj]) he hb
        exact ih e.on hlt (by omega)⟩
      rw [hr] at this
      cases this
def left (listed : Array Bool) : Nat:=(listed.toList.filter (!·)).length
theorem wpAny_of_inv {m : Nat} {md : Region.Mode} {F : Nat -> Fact γ} {C0 : Tmp -> Fact γ} {a0 : Act} {N : Nat} {Q' : Exit -> Act -> World -> Prop} (hrf : ∀ s,R s s) (htr : ∀ a b c,R a b -> R b c -> R a c)
    (hpair : Region.pairB md ops = true) (hback : Region.backB md ops = true) (hdst : Region.dstB ops ops.size N = true) (hC0 : ∀ t,C0 t (a0.tmps.getD t undef) s0) (hCs : ∀ t,Stable R (C0 t))
    (hO : ∀ (j : Nat) (oj : Oper),j < ops.size -> ops[j]? = some oj -> Obl P ops R U s0 N a0.defers (Cat ops F C0 j) j oj (F j))
    (hQ : ∀ a' s,R s0 s -> a'.tmps.size = N -> a'.defers = a0.defers -> (∀ t,t < N -> Cat ops F C0 ops.size t (a'.tmps.getD t undef) s) -> Q' .normal a' s.1) :
    ∀ (fuel : Nat) (listed : Array Bool) (a : Act) (s : World × γ),left listed <= fuel -> Inv md ops R U s0 F a0 ops.size N listed a s -> wpAnyIn Fence.wide m P md ops Q' fuel listed a s.1:=by
  have fin : ∀ (listed : Array Bool) (a : Act) (s : World × γ),Inv md ops R U s0 F a0 ops.size N listed a s -> Region.ready md ops listed = [] -> Q' .normal a s.1:=by
    intro listed a s inv hr
    have hall:=ready_nil_all hback inv.head.size hr
    refine hQ a s inv.step inv.size inv.defers fun t _=>?_
    rcases cat_cases (ops:=ops) F C0 ops.size t with ⟨i,oi,hi,hoi,hd,hF,_⟩ | ⟨hno,hC⟩
    . rw [hF]; exact inv.done i oi t hi hoi hd (hall i hi)
    . rw [hC,inv.old t fun i oi hi hoi hd=>absurd hd (hno i oi hi hoi)]
      exact hCs t _ _ _ inv.step (hC0 t)
  intro fuel
  induction fuel with
  | zero =>
    intro listed a s hc inv
    have hr : Region.ready md ops listed = []:=by
      cases hrr : Region.ready md ops listed with
      | nil=>rfl
      | cons x xs =>
        have hx : x ∈ Region.ready md ops listed:=by rw [hrr]; simp
        have hun:=(mem_ready.1 hx).1
        have hlt : x < listed.size:=by
          rcases Nat.lt_or_ge x listed.size with h' | h'
          . exact h'
          . simp [Array.getElem?_eq_none h'] at hun
        have : false ∈ listed.toList:=by
          have h2 : listed[x] = false:=by simpa [hlt] using hun
          rw [<- h2]; simp
        have : false ∈ listed.toList.filter (!·):=List.mem_filter.2 ⟨this,rfl⟩
        have:=List.length_pos_of_mem this
        unfold left at hc
        omega
    exact ⟨hr,fin listed a s inv hr⟩
  | succ fuel ih =>
    intro listed a s hc inv
    refine ⟨fin listed a s inv,fun j hj=>?_⟩
    obtain ⟨hun,oj,hoj,_⟩:=mem_ready.1 hj
    have hjs : j < ops.size:=(Array.getElem?_eq_some_iff.1 hoj).1
    exact Inv.wpOp htr hpair hdst hC0 hCs hO inv hjs hoj hj hrf fun a' s' inv'=>ih _ a' s' (count_step hun fuel hc) inv'
def wpListIn (F : Fence) (m : Nat) (P : Program) (ops : Array Oper) (Q : Exit -> Act -> World -> Prop) : List Oper -> Act -> World -> Prop
  | [],a,w=>Q .normal a w
  | o::l,a,w=>if Region.wanted o (yielded ops a.tmps) then o.wpIn F m P a w (wpListIn F m P ops Q l) Q else (∀ f,o.about P w a.eval = some f -> F.fn f) /\ wpListIn F m P ops Q l (a.put o.dst undef) w
theorem wpAnyIn_of_seq {F : Fence} {m : Nat} {md : Region.Mode} {Q' : Exit -> Act -> World -> Prop} : ∀ (l : List Oper) (k : Nat) (listed : Array Bool) (a : Act) (w : World),(∀ j : Nat,l[j]? = ops[k + j]?) ->
    Region.seqB md ops l.length k listed = true -> wpListIn F m P ops Q' l a w -> wpAnyIn F m P md ops Q' l.length listed a w
  | [],_,_,_,_,_,hB,h=>⟨by simpa [Region.seqB] using hB,h⟩
  | o :: l, k, listed, a, w, hl, hB, h => by
    have h0 : ops[k]? = some o:=by simpa using (hl 0).symm
    simp only [List.length_cons,Region.seqB,Bool.and_eq_true,decide_eq_true_eq] at hB
    refine ⟨fun h1=>(by rw [hB.1] at h1; cases h1),fun i hi=>?_⟩
    rw [hB.1] at hi
    have hik : i = k:=by simpa using hi
    subst hik
    have hw : wpOpIn F m P ops Q' i (wpListIn F m P ops Q' l) a w:=by unfold wpOpIn; simp only [h0]; exact h
    exact wpOpIn_mono (fun a' w' h'=>wpAnyIn_of_seq l (i + 1) _ a' w' (fun j=>by have:=hl (j + 1); simpa [Nat.add_assoc,Nat.add_comm 1 j] using this) hB.2 h') hw
def Region.sinkE (md : Region.Mode) (ops : Array Oper) (E : List Nat) (n : Nat) : Bool :=
  (List.range n).all fun i=>E.contains i || (List.range (n + 1)).any fun j=>decide (i < j) && Region.waits md ops j i
def Region.chainE (md : Region.Mode) (ops : Array Oper) (n : Nat) : Bool :=
  (List.range ops.size).all fun t=>decide (t <= n) || Region.waits md ops t (t - 1)
theorem tail_waitsE {md : Region.Mode} {E : List Nat} {n : Nat} {listed : Array Bool} (hs : Region.sinkE md ops E n = true) (hc : Region.chainE md ops n = true) (inv : HeadInv md ops n listed) (hE : ∀ i ∈ E,listed.getD i false = true) :
    ∀ (d i : Nat),n - i = d -> i < n -> listed.getD i true = false -> ∀ t,n <= t -> t ∉ Region.ready md ops listed:=by
  intro d
  induction d using Nat.strongRecOn with
  | _ d ih =>
    intro i hd hi hun t ht hr
    obtain ⟨hunt,ot,hot,hall⟩:=mem_ready.1 hr
    have hts : t < ops.size:=(Array.getElem?_eq_some_iff.1 hot).1
    -- a tail operation behind the first waits for the one ahead of it
    rcases Nat.lt_or_ge n t with hlt | hge
    . have h1:=List.all_eq_true.1 hc t (List.mem_range.2 hts)
      simp only [Bool.or_eq_true,decide_eq_true_eq] at h1
      rcases h1 with h1 | h1
      . omega
      . obtain ⟨o',ho',e,he,hb,hon⟩:=waits_spec h1
        rw [hot] at ho'
        obtain rfl:=Option.some.inj ho'
        have h2:=hall e he hb
        rw [hon,getD_both (inv.tail (t - 1) (by omega) (by omega))] at h2
        cases h2
    . have htn : t = n:=by omega
      subst htn
      have h1:=List.all_eq_true.1 hs i (List.mem_range.2 hi)
      simp only [Bool.or_eq_true,List.any_eq_true,List.mem_range,Bool.and_eq_true,decide_eq_true_eq] at h1
      rcases h1 with h1 | ⟨j,hj,hij,hw⟩
      . have:=hE i (by simpa using h1)
        rw [getD_both hun] at this
        cases this
      . obtain ⟨oj,hoj,e,he,hb,hon⟩:=waits_spec hw
        rcases Nat.lt_or_ge j t with hjt | hjt
        . have hjun : listed.getD j true = false:=by
            cases hl : listed.getD j false with
            | false =>
              have hjs : j < listed.size:=by rw [inv.size]; omega
              simpa [Array.getD,hjs] using hl
            | true =>
              have:=inv.closed j oj hoj hl e he hb
              rw [hon,getD_both hun] at this
              cases this
          exact ih (t - j) (by omega) j rfl hjt hjun t (Nat.le_refl _) hr
        . have : j = t:=by omega
          subst this
          rw [hot] at hoj
          obtain rfl:=Option.some.inj hoj
          have h2:=hall e he hb
          rw [hon,getD_both hun] at h2
          cases h2
theorem wpAny_of_inv_tail {m : Nat} {md : Region.Mode} {F : Nat -> Fact γ} {C0 : Tmp -> Fact γ} {a0 : Act} {n N : Nat} {E : List Nat} {Q' : Exit -> Act -> World -> Prop} (hrf : ∀ s,R s s) (htr : ∀ a b c,R a b -> R b c -> R a c)
    (hpair : Region.pairB md ops = true) (hback : Region.backB md ops = true) (hdst : Region.dstB ops n N = true) (hC0 : ∀ t,C0 t (a0.tmps.getD t undef) s0) (hCs : ∀ t,Stable R (C0 t))
    (hn : n < ops.size) (hsink : Region.sinkE md ops E n = true) (hchain : Region.chainE md ops n = true)
    (hO : ∀ (j : Nat) (oj : Oper),j < n -> ops[j]? = some oj -> Obl P ops R U s0 N a0.defers (Cat ops F C0 j) j oj (F j)) (g : Nat)
    (hQ : ∀ listed a' s,R s0 s -> a'.tmps.size = N -> a'.defers = a0.defers -> (∀ t,t < N -> Cat ops F C0 n t (a'.tmps.getD t undef) s) ->
      listed.size = ops.size -> (∀ j : Nat,j < ops.size -> listed.getD j false = decide (j < n)) -> wpAnyIn Fence.wide m P md ops Q' g listed a' s.1) :
    ∀ (fuel : Nat) (listed : Array Bool) (a : Act) (s : World × γ),left listed = fuel + (ops.size - n) -> (∀ i ∈ E,listed.getD i false = true) -> Inv md ops R U s0 F a0 n N listed a s -> wpAnyIn Fence.wide m P md ops Q' (fuel + g) listed a s.1:=by
  intro fuel
  induction fuel with
  | zero =>
    intro listed a s hc hE inv
    rw [Nat.zero_add] at hc ⊢
    have hall : ∀ j : Nat,j < n -> listed.getD j false = true:=by
      intro j hj
      cases hl : listed.getD j false with
      | true=>rfl
      | false =>
        have hls:=inv.head.size
        have htail : (listed.toList.drop n).filter (!·) = listed.toList.drop n:=by
          rw [List.filter_eq_self]
          intro x hx
          obtain ⟨k,hk,rfl⟩:=List.mem_iff_getElem.1 hx
          simp only [List.length_drop,Array.length_toList] at hk
          have:=inv.head.tail (n + k) (by omega) (by omega)
          have hlt : n + k < listed.size:=by omega
          simp only [Array.getD,hlt,dif_pos] at this
          simpa using this
        have hhead : 0 < ((listed.toList.take n).filter (!·)).length:=by
          apply List.length_pos_of_mem (a:=false)
          refine List.mem_filter.2 ⟨?_,rfl⟩
          have hlt : j < listed.size:=by omega
          have hf : listed[j] = false:=by simpa [hlt] using hl
          have : (listed.toList.take n)[j]'(by simp; omega) = false:=by simpa using hf
          rw [<- this]
          exact List.getElem_mem _
        have h2 : listed.toList.filter (!·) = (listed.toList.take n).filter (!·) ++ (listed.toList.drop n).filter (!·):=by
          rw [<- List.filter_append,List.take_append_drop]
        have hlen : (listed.toList.drop n).length = ops.size - n:=by simp [hls]
        unfold left at hc
        rw [h2,htail,List.length_append,hlen] at hc
        omega
    refine hQ listed a s inv.step inv.size inv.defers (fun t _=>?_) inv.head.size fun j hj=>?_
    . rcases cat_cases (ops:=ops) F C0 n t with ⟨i,oi,hi,hoi,hd,hF,_⟩ | ⟨hno,hC⟩
      . rw [hF]; exact inv.done i oi t hi hoi hd (hall i hi)
      . rw [hC,inv.old t fun i oi hi hoi hd=>absurd hd (hno i oi hi hoi)]
        exact hCs t _ _ _ inv.step (hC0 t)
    . by_cases hjn : j < n
      . simp [hall j hjn,hjn]
      . have:=getD_both (inv.head.tail j (by omega) hj)
        simp [this,hjn]
  | succ fuel ih =>
    intro listed a s hc hE inv
    rw [show fuel + 1 + g = (fuel + g) + 1 by omega]
    have hex : ∃ j,j < n /\ listed.getD j false = false:=by
      refine Classical.byContradiction fun hno=>?_
      have hall : ∀ j : Nat,j < n -> listed.getD j false = true:=fun j hj=>by
        cases hl : listed.getD j false with
        | true=>rfl
        | false=>exact absurd ⟨j,hj,hl⟩ hno
      have hls:=inv.head.size
      have hhead : (listed.toList.take n).filter (!·) = []:=by
        rw [List.filter_eq_nil_iff]
        intro x hx
        obtain ⟨k,hk,rfl⟩:=List.mem_iff_getElem.1 hx
        simp only [List.length_take,Array.length_toList] at hk
        have:=hall k (by omega)
        have hlt : k < listed.size:=by omega
        simp only [Array.getD,hlt,dif_pos] at this
        simpa using this
      have h2 : listed.toList.filter (!·) = (listed.toList.take n).filter (!·) ++ (listed.toList.drop n).filter (!·):=by
        rw [<- List.filter_append,List.take_append_drop]
      have h3:=List.length_filter_le (fun x : Bool=>!x) (listed.toList.drop n)
      unfold left at hc
      rw [h2,hhead] at hc
      simp only [List.nil_append,List.length_drop,Array.length_toList] at hc h3
      omega
    obtain ⟨j0,hj0,hl0⟩:=hex
    have hnotail : ∀ t,n <= t -> t ∉ Region.ready md ops listed :=
      tail_waitsE hsink hchain inv.head hE (n - j0) j0 rfl hj0 (getD_in (by rw [inv.head.size]; omega) hl0)
    have hne : Region.ready md ops listed ≠ []:=fun hr=>by
      have:=ready_nil_all hback inv.head.size hr j0 (by omega)
      rw [hl0] at this
      cases this
    refine ⟨fun hr=>absurd hr hne,fun j hj=>?_⟩
    obtain ⟨hun,oj,hoj,_⟩:=mem_ready.1 hj
    have hjn : j < n:=by
      rcases Nat.lt_or_ge j n with h | h
      . exact h
      . exact absurd hj (hnotail j h)
    refine Inv.wpOp htr hpair hdst hC0 hCs hO inv hjn hoj hj hrf fun a' s' inv'=>ih _ a' s' (count_step' hun _ (by unfold left at hc; omega)) (fun i hi=>?_) inv'
    by_cases hij : j = i
    . subst hij
      have:=hE j hi
      rw [getD_both hun] at this
      cases this
    . rw [getD_set_ne false hij]; exact hE i hi
/-! ### Operations that are taken first: a slot's value moved that nothing in the region writes -/
def Oper.freeB (md : Region.Mode) (ops : Array Oper) (i : Nat) (o : Oper) : Bool :=
  o.guard.isNone && o.after.all (fun e=>!Region.binds md e) && (match o.op with | .move _=>true | _=>false) && o.dst.isSome &&
  (List.range ops.size).all fun j=>decide (j = i) || match ops[j]? with
    | some oj=>oj.after.any (fun e=>Region.binds md e && e.on == i) || o.apart ops oj
    | none=>true
def freeE (md : Region.Mode) (ops : Array Oper) (n : Nat) : List Nat:=(List.range n).filter fun i=>match ops[i]? with | some o=>Oper.freeB md ops i o | none=>false
def putE (ops : Array Oper) : List Nat -> Act -> Act
  | [],a=>a
  | i::E,a=>putE ops E (match ops[i]? with | some o=>(match o.op with | .move x=>a.put o.dst (a.eval x) | _=>a) | none=>a)
def listE : List Nat -> Array Bool -> Array Bool
  | [],l=>l
  | i::E,l=>listE E (l.setIfInBounds i true)
end
end
section
open Go.RowKit
section
variable {P : Program} {w0 : World} {A0 : Nat -> Prop} {β0 : List (Option Nat)} {M : Nat} {ks : List Nat} {w : World} {A : Nat -> Prop} {β : List (Option Nat)} {H : List Blk}
variable {o : Oper} {op : IOp} {e : Env} {K : SV -> Env -> List Blk -> Prop} {a : Act}
theorem set_same {α : Type} {l : List α} {k : Nat} {x : α} (h : l[k]? = some x) : l.set k x = l:=by
  apply List.ext_getElem?
  intro p
  by_cases hp : k = p
  . subst hp; rw [List.getElem?_set_self (List.getElem?_eq_some_iff.1 h).1,h]
  . rw [List.getElem?_set_ne hp]
theorem cp_rel {c : Call} {x y : Operand} (ho : o.op = .call c) (hcl : c.callee = .builtin .copy) (hargs : c.args.toList = [x,y]) {el el' : TypeId} (ht : c.argTypes.toList.map P.underlying = [some (.slice el),some (.slice el')]) {wd : Nat} (hs : szOf P el = some wd) (hs0 : 0 < wd)
    (h : xop P M ks (.cp wd (cOpd x) (cOpd y)) e H K) (hcur : Cur w0 A0 β0 M ks w A β H) (henv : EnvRel w A β e a.tmps) : rel P o a w (Then K w0 A0 β0 M ks a.tmps):=by
  obtain ⟨t,tx,hts,hu⟩ : ∃ t tx,c.argTypes.toList = [t,tx] /\ P.underlying t = some (.slice el):=by
    cases h : c.argTypes.toList with
    | nil=>simp [h] at ht
    | cons t l => cases l with
      | nil=>simp [h] at ht
      | cons t' l=>cases l <;> simp [h] at ht; exact ⟨t,t',rfl,ht.1⟩
  have hts' : c.argTypes = #[t,tx]:=by apply Array.ext'; simpa using hts
  have hargs' : c.args = #[x,y]:=by apply Array.ext'; simpa using hargs
  have run : ∀ {w' : World} {v : Value},(Builtin.copy_ #[t,tx] o.type #[a.eval x,a.eval y]).run P w = .ok v w' -> (execOp a.eval o).run P w = .ok (.value v) w':=by
    intro w' v h
    simp [execOp,ho,resolve,hcl,hargs',hts',invoke,builtin,h]
  simp only [xop] at h
  obtain ⟨ys,h,hys⟩:=elems_ex h
  have hyr:=ev_rep (e:=e) (a:=a) (w:=w) (A:=A) (β:=β) y fun t _=>henv t
  have hxr:=ev_rep (e:=e) (a:=a) (w:=w) (A:=A) (β:=β) x fun t _=>henv t
  split at h
  . rename_i k wd' i0 n hx
    split at h
    . rename_i wd'' xs hblk
      obtain ⟨rfl,rfl,hle,hsc,hK⟩:=h
      obtain ⟨ad,cy,news,hyv,hnl,hrow,hone,hsrc⟩:=hys w A β _ hs0 hcur.rel hyr hsc
      rw [hx] at hxr
      generalize hav : a.eval x = v at hxr
      -- what is read
      have hfirst : (Builtin.firstCells wd'' (Nat.min ys.length n) (.slice ad ys.length cy)).run P w = .ok (news.take (Nat.min ys.length n * wd'')).toArray w:=by
        rcases hsrc with ⟨rfl,rfl,rfl⟩ | ⟨rfl,rfl⟩ | ⟨b,off,rfl,hcell⟩
        . have : Nat.min ([] : List (List SV)).length n = 0:=by simp
          rw [this]
          simpa using run_firstCells_none w wd'' 0 _ cy
        . have : Nat.min ([] : List (List SV)).length n = 0:=by simp
          rw [this]
          cases ad with
          | none=>simpa using run_firstCells_none w wd'' 0 _ cy
          | some ad=>simpa using run_firstCells_some w wd'' 0 ad _ cy [] (by simp) fun j v h=>by simp at h
        . refine run_firstCells_some w wd'' _ _ _ cy _ ?_ fun j v hj=>?_
          . rw [List.length_take,hnl]
            exact Nat.min_eq_left (Nat.mul_le_mul_right _ (Nat.min_le_left _ _))
          . rw [addr_add]
            have hj':=(List.getElem?_eq_some_iff.1 hj).1
            rw [List.length_take] at hj'
            rw [List.getElem?_take_of_lt (by omega)] at hj
            exact hcell j v hj
      generalize hn : n = n' at hxr
      cases hxr with
      | oslZ _ _ _ _ ad' =>
        subst hn
        have h0 : Nat.min ys.length 0 = 0:=Nat.min_zero _
        rw [h0] at hfirst
        have hrun : (Builtin.copy_ #[t,tx] o.type #[a.eval x,a.eval y]).run P w = .ok (goInt 0) w:=by
          rw [hav,hyv]
          simp only [Nat.zero_mul,List.take_zero] at hfirst
          simp only [Builtin.copy_,List.getElem?_toArray,List.getElem?_cons_zero,List.getElem?_cons_succ,Sem.run_bind,run_under hu,Result.andThen_ok,Builtin.lenOf,Sem.run_pure,run_size hs,h0,hfirst]
          cases ad' <;> simp [storeCells]
        refine rel_value (run hrun) ⟨_,_,_,A,β,hK,?_,henv,?_⟩
        . have : xs.take i0 ++ (ys.take 0 ++ xs.drop (i0 + min ys.length 0)) = xs:=by simp
          rw [this,set_same hblk]; exact hcur
        . have : (min ys.length 0 : Nat) = 0:=by simp
          rw [this]; exact .int _ _ _
      | osl _ _ _ _ _ b cap hkb hcap hsz =>
        subst hn
        obtain ⟨cs,T,hb,hcl',hcs⟩:=hcur.rel.blk k (some b) _ hkb hblk
        have hmin : Nat.min ys.length n = min ys.length n:=rfl
        have hm1 : min ys.length n <= n:=Nat.min_le_right _ _
        have hm2 : min ys.length n <= ys.length:=Nat.min_le_left _ _
        have hnl' : (news.take (min ys.length n * wd'')).length = min ys.length n * wd'':=by
          rw [List.length_take,hnl]; exact Nat.min_eq_left (Nat.mul_le_mul_right _ hm2)
        have hcsz : i0 * wd'' + min ys.length n * wd'' <= cs.length:=by
          rw [<- Nat.add_mul]
          exact Nat.le_trans (Nat.mul_le_mul_right _ (by omega)) hcl'
        have hl : (cs.take (i0 * wd'') ++ (news.take (min ys.length n * wd'') ++ cs.drop (i0 * wd'' + min ys.length n * wd''))).length = cs.length:=by
          simp only [List.length_append,hnl',List.length_take,List.length_drop]; omega
        obtain ⟨hfrm,_⟩:=setRow_frm (cs':=(cs.take (i0 * wd'') ++ (news.take (min ys.length n * wd'') ++ cs.drop (i0 * wd'' + min ys.length n * wd'')))) hb hl k hkb
        have hstp:=hfrm.stp hcur.own
        have hst:=run_storeCells_at P b (i0 * wd'') T (news.take (min ys.length n * wd'')) 0 cs.toArray w hb (by rw [hnl']; simpa using hcsz) (fun v hv=>hone v (List.mem_of_mem_take hv))
        simp only [Nat.add_zero,List.append_assoc,hnl'] at hst
        have hrun : (Builtin.copy_ #[t,tx] o.type #[a.eval x,a.eval y]).run P w = .ok (goInt (min ys.length n : Nat)) (w.setRow b (cs.take (i0 * wd'') ++ (news.take (min ys.length n * wd'') ++ cs.drop (i0 * wd'' + min ys.length n * wd''))).toArray):=by
          rw [hav,hyv]
          simp only [Builtin.copy_,List.getElem?_toArray,List.getElem?_cons_zero,List.getElem?_cons_succ,Sem.run_bind,run_under hu,Result.andThen_ok,Builtin.lenOf,Sem.run_pure,run_size hs,hfirst,hmin]
          rw [hst]
          rfl
        refine rel_value (run hrun) ⟨_,_,_,A,β,hK,hcur.set hkb hb hl ?_,henv.mono hstp (fun _ _ h=>h) (fun _ _ h=>h),.int _ _ _⟩
        -- the row behind it
        have hi0 : (xs.take i0).length = i0:=by simp; omega
        have hrow1 : Row w A wd'' (xs.take i0) (cs.take (i0 * wd'')):=by
          have h1 : Row w A wd'' (xs.take i0) cs:=⟨by rw [hi0]; omega,fun p x'' hp=>by
            have hlt : p < i0:=by rw [<- hi0]; exact (List.getElem?_eq_some_iff.1 hp).1
            rw [List.getElem?_take_of_lt hlt] at hp
            exact hcs p x'' hp⟩
          have:=(row_take h1).1
          rwa [hi0] at this
        have hrow2 : Row w A wd'' (ys.take n) (news.take (min ys.length n * wd'')):=by
          have hyl : (ys.take n).length = min ys.length n:=by simp; omega
          have h1 : Row w A wd'' (ys.take n) news:=⟨by rw [hyl,hnl]; exact Nat.mul_le_mul_right _ hm2,fun p x'' hp=>by
            have hlt : p < min ys.length n:=by rw [<- hyl]; exact (List.getElem?_eq_some_iff.1 hp).1
            rw [List.getElem?_take_of_lt (by omega)] at hp
            exact hrow.2 p x'' hp⟩
          have:=(row_take h1).1
          rwa [hyl] at this
        have hyl : (ys.take n).length = min ys.length n:=by simp; omega
        have hall:=row_append (rest:=cs.drop (i0 * wd'' + min ys.length n * wd'')) hrow1 (by rw [hi0,List.length_take]; omega) hrow2 (by rw [hyl]; exact hnl')
        refine ⟨_,T,setRow_heap w b _ _ _ _ hb,?_,fun p x'' hp=>?_⟩
        . rw [hl]
          refine Nat.le_trans ?_ hcl'
          apply Nat.mul_le_mul_right
          simp; omega
        . by_cases hpm : p < i0 + min ys.length n
          . have hp' : (xs.take i0 ++ ys.take n)[p]? = some x'':=by
              rw [<- List.append_assoc,List.getElem?_append_left (by rw [List.length_append,hi0,hyl]; exact hpm)] at hp
              exact hp
            have h1:=hall.2 p x'' hp'
            exact ⟨h1.1,fun q cc hq=>by
              obtain ⟨u,hu1,hu2⟩:=h1.2 q cc hq
              exact ⟨u,hu1,hu2.mono hstp (fun _ _ h=>h)⟩⟩
          . have hp' : xs[p]? = some x'':=by
              rw [<- List.append_assoc,List.getElem?_append_right (by rw [List.length_append,hi0,hyl]; omega),List.length_append,hi0,hyl,List.getElem?_drop] at hp
              rw [<- hp]; congr 1; omega
            refine ⟨(hcs p x'' hp').1,fun q cc hq=>?_⟩
            obtain ⟨u,hu1,hu2⟩:=(hcs p x'' hp').2 q cc hq
            refine ⟨u,?_,hu2.mono hstp (fun _ _ h=>h)⟩
            have hge : i0 * wd'' + min ys.length n * wd'' <= p * wd'':=by
              rw [<- Nat.add_mul]; exact Nat.mul_le_mul_right _ (by omega)
            have htl : (cs.take (i0 * wd'')).length = i0 * wd'':=by rw [List.length_take]; exact Nat.min_eq_left (by omega)
            rw [<- List.append_assoc,List.getElem?_append_right (by rw [List.length_append,hnl',htl]; omega),List.length_append,hnl',htl,List.getElem?_drop]
            rw [<- hu1]; congr 1; omega
    . exact h.elim
  . exact h.elim
theorem seg_put {k i0 wd b : Nat} {xs ys : List (List SV)} {news : List Value} (hkb : β[k]? = some (some b)) (hblk : H[k]? = some (.arr wd xs)) (hle : i0 + ys.length ≤ xs.length) (hnl : news.length = ys.length * wd) (hrow : Row w A wd ys news) (hone : ∀ v ∈ news, v.oneCell' = true)
    (hcur : Cur w0 A0 β0 M ks w A β H) (henv : EnvRel w A β e a.tmps) : ∃ w',(storeCells ⟨b,i0 * wd,none⟩ news).run P w = .ok () w' /\ Cur w0 A0 β0 M ks w' A β (H.set k (.arr wd (xs.take i0 ++ (ys ++ xs.drop (i0 + ys.length))))) /\ EnvRel w' A β e a.tmps:=by
  obtain ⟨cs,T,hb,hcl',hcs⟩:=hcur.rel.blk k (some b) _ hkb hblk
  have hcsz : i0 * wd + ys.length * wd <= cs.length:=by
    rw [<- Nat.add_mul]
    exact Nat.le_trans (Nat.mul_le_mul_right _ (by omega)) hcl'
  have hl : (cs.take (i0 * wd) ++ (news ++ cs.drop (i0 * wd + ys.length * wd))).length = cs.length:=by
    simp only [List.length_append,hnl,List.length_take,List.length_drop]; omega
  obtain ⟨hfrm,_⟩:=setRow_frm (cs':=(cs.take (i0 * wd) ++ (news ++ cs.drop (i0 * wd + ys.length * wd)))) hb hl k hkb
  have hstp:=hfrm.stp hcur.own
  have hst:=run_storeCells_at P b (i0 * wd) T news 0 cs.toArray w hb (by rw [hnl]; simpa using hcsz) hone
  simp only [Nat.add_zero,List.append_assoc,hnl] at hst
  refine ⟨_,hst,hcur.set hkb hb hl ?_,henv.mono hstp (fun _ _ h=>h) (fun _ _ h=>h)⟩
  have hi0 : (xs.take i0).length = i0:=by simp; omega
  have hrow1 : Row w A wd (xs.take i0) (cs.take (i0 * wd)):=by
    have h1 : Row w A wd (xs.take i0) cs:=⟨by rw [hi0]; omega,fun p x'' hp=>by
      have hlt : p < i0:=by rw [<- hi0]; exact (List.getElem?_eq_some_iff.1 hp).1
      rw [List.getElem?_take_of_lt hlt] at hp
      exact hcs p x'' hp⟩
    have:=(row_take h1).1
    rwa [hi0] at this
  have hall:=row_append (rest:=cs.drop (i0 * wd + ys.length * wd)) hrow1 (by rw [hi0,List.length_take]; omega) hrow hnl
  refine ⟨_,T,setRow_heap w b _ _ _ _ hb,?_,fun p x'' hp=>?_⟩
  . rw [hl]
    refine Nat.le_trans ?_ hcl'
    apply Nat.mul_le_mul_right
    simp; omega
  . by_cases hpm : p < i0 + ys.length
    . have hp' : (xs.take i0 ++ ys)[p]? = some x'':=by
        rw [<- List.append_assoc,List.getElem?_append_left (by rw [List.length_append,hi0]; exact hpm)] at hp
        exact hp
      have h1:=hall.2 p x'' hp'
      exact ⟨h1.1,fun q cc hq=>by
        obtain ⟨u,hu1,hu2⟩:=h1.2 q cc hq
        exact ⟨u,hu1,hu2.mono hstp (fun _ _ h=>h)⟩⟩
    . have hp' : xs[p]? = some x'':=by
        rw [<- List.append_assoc,List.getElem?_append_right (by rw [List.length_append,hi0]; omega),List.length_append,hi0,List.getElem?_drop] at hp
        rw [<- hp]; congr 1; omega
      refine ⟨(hcs p x'' hp').1,fun q cc hq=>?_⟩
      obtain ⟨u,hu1,hu2⟩:=(hcs p x'' hp').2 q cc hq
      refine ⟨u,?_,hu2.mono hstp (fun _ _ h=>h)⟩
      have hge : i0 * wd + ys.length * wd <= p * wd:=by
        rw [<- Nat.add_mul]; exact Nat.mul_le_mul_right _ (by omega)
      have htl : (cs.take (i0 * wd)).length = i0 * wd:=by rw [List.length_take]; exact Nat.min_eq_left (by omega)
      rw [<- List.append_assoc,List.getElem?_append_right (by rw [List.length_append,hnl,htl]; omega),List.length_append,hnl,htl,List.getElem?_drop]
      rw [<- hu1]; congr 1; omega
theorem clr_rel {c : Call} {x : Operand} (ho : o.op = .call c) (hcl : c.callee = .builtin .clear) (hargs : c.args.toList = [x]) {el : TypeId} (ht : c.argTypes.toList.map P.underlying = [some (.slice el)]) {z : List SV} (hz : zeroOf P el = some z) (hs0 : 0 < z.length)
    (h : xop P M ks (.clr z.length z (cOpd x)) e H K) (hcur : Cur w0 A0 β0 M ks w A β H) (henv : EnvRel w A β e a.tmps) : rel P o a w (Then K w0 A0 β0 M ks a.tmps):=by
  obtain ⟨t,hts,hu⟩ : ∃ t,c.argTypes.toList = [t] /\ P.underlying t = some (.slice el):=by
    cases h : c.argTypes.toList with
    | nil=>simp [h] at ht
    | cons t l=>cases l <;> simp [h] at ht; exact ⟨t,rfl,ht⟩
  have hts' : c.argTypes = #[t]:=by apply Array.ext'; simpa using hts
  have hargs' : c.args = #[x]:=by apply Array.ext'; simpa using hargs
  have run : ∀ {w' : World} {v : Value},(Builtin.clear_ #[t] o.type #[a.eval x]).run P w = .ok v w' -> (execOp a.eval o).run P w = .ok (.value v) w':=by
    intro w' v h
    simp [execOp,ho,resolve,hcl,hargs',hts',invoke,builtin,h]
  obtain ⟨v0,hv0,hvz⟩:=run_zero (P:=P) hz
  simp only [xop] at h
  have hxr:=ev_rep (e:=e) (a:=a) (w:=w) (A:=A) (β:=β) x fun t _=>henv t
  split at h
  . rename_i k wd' i0 n hx
    split at h
    . rename_i wd'' xs hblk
      obtain ⟨hwd1,hwd2,hle,hp,hp2,hK⟩:=h
      subst hwd1 hwd2
      rw [hx] at hxr
      generalize hav : a.eval x = v at hxr
      cases hxr with
      | oslZ _ _ _ _ ad' =>
        have hrun : (Builtin.clear_ #[t] o.type #[a.eval x]).run P w = .ok (.tuple #[]) w:=by
          rw [hav]
          cases ad' <;> simp [Builtin.clear_,run_underlying hu]
        refine rel_value (run hrun) ⟨_,_,_,A,β,hK,?_,henv,Rep.tup _ [] [] rfl fun i f v hf=>by simp at hf⟩
        have : xs.take i0 ++ (List.replicate 0 z ++ xs.drop (i0 + 0)) = xs:=by simp
        rw [this,set_same hblk]; exact hcur
      | osl _ _ _ _ _ b cap hkb hcap hsz =>
        have hvs : v0.cells.size = z.length:=by rw [<- hvz]; simp
        have hrow : Row w A z.length (List.replicate n z) (Builtin.zeroCells v0.cells n).toList:=by
          have:=row_zero (w:=w) (A:=A) n z.length v0.cells hvs hs0 (by rw [hvz]; exact hp) (n * v0.cells.size) (by rw [hvs]; exact Nat.le_refl _)
          rwa [hvz] at this
        have hnl : (Builtin.zeroCells v0.cells n).toList.length = (List.replicate n z).length * z.length:=by
          simp [Builtin.zeroCells,hvs]
        have hone : ∀ v ∈ (Builtin.zeroCells v0.cells n).toList,v.oneCell' = true:=by
          intro v hv
          simp only [Builtin.zeroCells,Array.toList_map,List.mem_map] at hv
          obtain ⟨i,_,rfl⟩:=hv
          have hi : i % v0.cells.size < v0.cells.size:=Nat.mod_lt _ (by omega)
          rw [getElem!_pos v0.cells (i % v0.cells.size) hi]
          have hm : z[i % v0.cells.size]? = some (ofVal1 v0.cells[i % v0.cells.size]):=by
            rw [<- hvz]; simp [hi]
          exact scalar_one (ofVal1_rep (w:=w) (A:=A) (β:=[]) _) (scalarL_mem hp2 _ _ hm)
        obtain ⟨w',hst,hcur',henv'⟩:=seg_put (i0:=i0) (ys:=List.replicate n z) hkb hblk (by simpa using hle) hnl hrow hone hcur henv
        rw [List.length_replicate] at hcur'
        have hrun : (Builtin.clear_ #[t] o.type #[a.eval x]).run P w = .ok (.tuple #[]) w':=by
          rw [hav]
          cases n with
          | zero =>
            simp [Builtin.zeroCells,storeCells] at hst
            subst hst
            simp [Builtin.clear_,run_underlying hu]
          | succ n =>
            simp only [Builtin.clear_,List.getElem?_toArray,List.getElem?_cons_zero,Sem.run_bind,run_underlying hu,Result.andThen_ok,hv0,Sem.run_pure]
            rw [hst]
            rfl
        exact rel_value (run hrun) ⟨_,_,_,A,β,hK,hcur',henv',Rep.tup _ [] [] rfl fun i f v hf=>by simp at hf⟩
    . exact h.elim
  . exact h.elim
theorem shiftH_get (m : Nat) : ∀ (H : List Blk) (i : Nat),(shiftH m H)[i]? = (H[i]?).map (Blk.shift m)
  | [],i=>by simp [shiftH]
  | b::H,0=>by simp [shiftH]
  | b::H,i + 1=>by simp [shiftH,shiftH_get m H i]
theorem shiftH_length (m : Nat) : ∀ H : List Blk,(shiftH m H).length = H.length
  | []=>rfl
  | b::H=>by simp [shiftH,shiftH_length m H]
theorem Cur.join {w1 : World} {γ : List (Option Nat)} {Hn : List Blk} (h : Cur w0 A0 β0 M ks w A β H) (hb : Belo w.heap.size w w1) (hW : WRel w1 (fun b=>A b \/ some b ∈ γ) γ Hn) (hnew : ∀ b,some b ∈ γ -> w.heap.size <= b) :
    Cur w0 A0 β0 M ks w1 (fun b=>A b \/ some b ∈ γ) (β ++ γ) (H ++ shiftH H.length Hn):=by
  have hlt : ∀ (k c : Nat),β[k]? = some (some c) -> c < w.heap.size:=fun k c hk=>(h.rel.own k c hk).2
  have hkl : ∀ k,k < β.length -> (β ++ γ)[k]? = β[k]?:=fun k hk=>List.getElem?_append_left hk
  have hkr : ∀ k,¬ k < β.length -> (β ++ γ)[k]? = γ[k - β.length]?:=fun k hk=>List.getElem?_append_right (by omega)
  have hge : ∀ (k c : Nat),γ[k]? = some (some c) -> w.heap.size <= c:=fun k c hk=>hnew c (List.mem_of_getElem? hk)
  have w0le:=h.frm.size
  refine ⟨⟨by rw [List.length_append,List.length_append,shiftH_length,h.rel.len,hW.len],fun k k' c hk hk'=>?_,fun k c hk=>?_,fun k o bk ho hbk=>?_⟩,fun c hc=>?_,h.frm.step (Frm.below hb) h.fresh,fun c hc=>?_,fun k c hk hc=>?_,fun k hk hn=>?_,by simp; have:=h.more; omega⟩
  . by_cases e : k < β.length <;> by_cases e' : k' < β.length
    . rw [hkl k e] at hk; rw [hkl k' e'] at hk'; exact h.rel.inj k k' c hk hk'
    . rw [hkl k e] at hk; rw [hkr k' e'] at hk'; have:=hlt k c hk; have:=hge _ c hk'; omega
    . rw [hkr k e] at hk; rw [hkl k' e'] at hk'; have:=hlt k' c hk'; have:=hge _ c hk; omega
    . rw [hkr k e] at hk; rw [hkr k' e'] at hk'; have:=hW.inj _ _ c hk hk'; omega
  . by_cases e : k < β.length
    . rw [hkl k e] at hk; exact ⟨.inl (h.rel.own k c hk).1,Nat.lt_of_lt_of_le (hlt k c hk) hb.size⟩
    . rw [hkr k e] at hk; exact hW.own _ c hk
  . by_cases e : k < β.length
    . rw [hkl k e] at ho
      rw [List.getElem?_append_left (by rw [<- h.rel.len]; exact e)] at hbk
      refine (h.rel.blk k o bk ho hbk).keep (Stp.below hb) (fun c hc ha=>ha.resolve_right fun hm=>by have:=hnew c hm; omega) (fun k' c hc=>?_) (fun c hc=>hb.block c (hlt k c (by rw [ho,hc])))
      rw [hkl k' (List.getElem?_eq_some_iff.1 hc).1]; exact hc
    . rw [hkr k e] at ho
      rw [List.getElem?_append_right (by rw [<- h.rel.len]; omega),shiftH_get] at hbk
      obtain ⟨bk',hbk',rfl⟩:=Option.map_eq_some_iff.1 hbk
      rw [<- h.rel.len] at hbk'
      rw [<- h.rel.len]
      exact (hW.blk _ o bk' ho hbk').shift β
  . rcases hc with hc | hc
    . exact Nat.lt_of_lt_of_le (h.fin c hc) hb.size
    . obtain ⟨k,hk,he⟩:=List.getElem_of_mem hc
      exact (hW.own k c (by simp [hk,he])).2
  . exact ⟨fun hc'=>(h.agree c hc).1 (hc'.resolve_right fun hm=>by have:=hnew c hm; omega),fun hc'=>.inl ((h.agree c hc).2 hc')⟩
  . by_cases e : k < β.length
    . rw [hkl k e] at hk; exact h.fresh k c hk hc
    . rw [hkr k e] at hk; have:=hge _ c hk; omega
  . have:=h.more
    rw [hkl k (by omega)]; exact h.same k hk hn
theorem EnvRel.kills {w w' : World} {A A' : Nat -> Prop} {β γ : List (Option Nat)} {tmps : Array Value} (s : Stp A w w') (hA : ∀ b,b < w.heap.size -> A' b -> A b) : ∀ (js : List Nat) (e : Env),EnvRel w A β e tmps -> (∀ (j b : Nat),j ∉ js -> β[j]? = some (some b) -> γ[j]? = some (some b)) -> EnvRel w' A' γ (killEs js e) tmps
  | [],e,h,hg=>h.mono s hA fun k b hk=>hg k b (by simp) hk
  | k :: js, e, h, hg => by
    have hcut : ∀ (j b : Nat),(β.set k none)[j]? = some (some b) -> j ≠ k /\ β[j]? = some (some b):=fun j b hj=>by
      by_cases hjk : j = k
      . subst hjk
        by_cases hl : j < β.length
        . rw [List.getElem?_set_self hl] at hj; simp at hj
        . rw [List.getElem?_eq_none (by simp; omega)] at hj; cases hj
      . rw [List.getElem?_set_ne (Ne.symm hjk)] at hj; exact ⟨hjk,hj⟩
    have h1 : EnvRel w A (β.set k none) (killE k e) tmps:=h.kill (Stp.refl _ _) (fun _ _ h=>h) k fun j b hj hb=>by rw [List.getElem?_set_ne (Ne.symm hj)]; exact hb
    exact EnvRel.kills s hA js (killE k e) h1 fun j b hj hb=>hg j b (by simp [(hcut j b hb).1,hj]) (hcut j b hb).2
theorem hs_frame {Hf : List Blk} {g : FuncId} {k wd i n wd' : Nat} {xs : List (List SV)} {rest rest' : List SV} {vs : List Value} {res : SV} {wd2 : Nat} {ys : List (List SV)} {js : List Nat}
    (hl : rest'.length = rest.length) (hys : ∀ (i : Nat) (x y : SV),rest[i]? = some x -> rest'[i]? = some y -> Frz Hf x y) (hHS : HS P g (.osl 0 wd i n::rest') [.arr wd' xs] res [.arr wd2 ys] js) (hlo : SV.loose res = true) (hlo2 : Blk.loose (.arr wd2 ys))
    (hW : WB w A β Hf) (hfin : ∀ b,A b -> b < w.heap.size) (hk : ∀ b,β[k]? = some (some b) -> A b /\ BlkRel w A β (some b) (.arr wd' xs) /\ ∀ (k' : Nat) (blk : Blk),β[k']? = some (some b) -> Hf[k']? = some blk -> blk.tells = false)
    (hr : Reps w A β (.osl k wd i n::rest) vs) :
    Calls P g vs.toArray w fun e w'=>∃ (v : Value) (o : Option Nat),e = .returned v /\ Frm [(β[k]?).join] w w' /\ (∀ b,o = some b -> b < w'.heap.size /\ (b < w.heap.size -> β[k]? = some (some b))) /\
      (∀ (A2 : Nat -> Prop) (γ : List (Option Nat)),BlkRel w' A2 γ o (.arr wd2 ys)) /\ ∀ (A2 : Nat -> Prop) (γ : List (Option Nat)) (p : Nat),γ[p]? = some o -> Rep w' A2 γ (res.shift p) v:=by
  obtain ⟨hvl,hrr⟩:=hr
  cases vs with
  | nil=>simp at hvl
  | cons v0 vs' =>
    have h0:=hrr 0 _ v0 rfl rfl
    have hz:=frz_list (A1:=fun c=>A c /\ ∀ (k' : Nat) (blk : Blk),β[k']? = some (some c) -> Hf[k']? = some blk -> blk.tells = false) hl hys hW (fun b hb=>hb.1) (fun k b blk h1 h2 h3 hb=>by have:=hb.2 k blk h1 h2; rw [h3] at this; cases this) (vs:=vs') fun i f v hf hv=>hrr (i + 1) f v (by simpa using hf) (by simpa using hv)
    have hjoin : ∀ b,(β[k]?).join = some b -> β[k]? = some (some b):=fun b hb=>by
      cases hq : β[k]? with
      | none=>simp [hq] at hb
      | some o=>simp [hq] at hb; rw [hb]
    have hone : ∀ (j b : Nat),[(β[k]?).join][j]? = some (some b) -> j = 0 /\ β[k]? = some (some b):=fun j b hj=>by
      cases j with
      | zero=>simp only [List.getElem?_cons_zero,Option.some.injEq] at hj; exact ⟨rfl,hjoin b hj⟩
      | succ j=>simp at hj
    have hW1 : WRel w (fun c=>A c /\ ∀ (k' : Nat) (blk : Blk),β[k']? = some (some c) -> Hf[k']? = some blk -> blk.tells = false) [(β[k]?).join] [.arr wd' xs]:=by
      refine ⟨rfl,fun j j' b h1 h2=>by rw [(hone j b h1).1,(hone j' b h2).1],fun j b hj=>?_,fun j o blk ho hb=>?_⟩
      . obtain ⟨h1,_,h3⟩:=hk b (hone j b hj).2
        exact ⟨⟨h1,h3⟩,hfin b h1⟩
      . cases o with
        | none=>trivial
        | some b =>
          obtain ⟨rfl,hb'⟩:=hone j b ho
          simp only [List.getElem?_cons_zero,Option.some.injEq] at hb
          subst hb
          obtain ⟨_,⟨cs,T,h1,h2,h3⟩,_⟩:=hk b hb'
          exact ⟨cs,T,h1,h2,fun i x hx=>⟨(h3 i x hx).1,fun j c hc=>by
            obtain ⟨v,h4,h5⟩:=(h3 i x hx).2 j c hc
            exact ⟨v,h4,h5.mono (Stp.refl _ _) fun _ _ h=>h.1⟩⟩⟩
    have hr1 : Reps w (fun c=>A c /\ ∀ (k' : Nat) (blk : Blk),β[k']? = some (some c) -> Hf[k']? = some blk -> blk.tells = false) [(β[k]?).join] (.osl 0 wd i n::rest') (v0::vs'):=by
      refine ⟨by simp at hvl ⊢; omega,fun j f v hf hv=>?_⟩
      cases j with
      | zero =>
        simp only [List.getElem?_cons_zero,Option.some.injEq] at hf hv
        subst hf hv
        cases h0 with
        | oslZ=>exact .oslZ _ _ _ _ _
        | osl _ _ _ _ _ b cap hkb hc hs=>exact .osl _ _ _ _ _ b cap (by simp [hkb]) hc hs
      | succ j=>exact (hz j f v (by simpa using hf) (by simpa using hv)).more _ fun k b h=>by simp at h
    refine (hHS.2 w _ _ _ (fun b hb=>hfin b hb.1) hW1 hr1).mono ?_
    rintro e' w' ⟨v,A',β',rfl,hfrm,hfin',hW',hag,hfr,hsame,hmore,hrep⟩
    obtain ⟨o,rfl⟩ : ∃ o,β' = [o]:=by
      have:=hW'.len
      cases β' with
      | nil=>simp at this
      | cons o t => cases t with
        | nil=>exact ⟨o,rfl⟩
        | cons=>simp at this
    refine ⟨v,o,rfl,hfrm,fun b hb=>⟨(hW'.own 0 b (by simp [hb])).2,fun hlt=>?_⟩,fun A2 γ=>?_,fun A2 γ p hp=>?_⟩
    . have:=hfr 0 b (by simp [hb]) hlt
      exact hjoin b (List.mem_singleton.1 this).symm
    . have:=(hW'.blk 0 o _ rfl rfl).loosely hlo2 A2
      cases o with
      | none=>trivial
      | some b=>exact this
    . have h1:=(hrep.loosely hlo A2).shift (List.replicate p none)
      rw [List.length_replicate] at h1
      refine h1.more γ fun j b hj=>?_
      by_cases hjp : j < p
      . rw [List.getElem?_append_left (by simpa using hjp),List.getElem?_replicate_of_lt hjp] at hj; simp at hj
      . rw [List.getElem?_append_right (by simpa using hjp),List.length_replicate] at hj
        have hj0 : j - p = 0:=by
          have:=(List.getElem?_eq_some_iff.1 hj).1
          simp at this; omega
        rw [hj0] at hj
        simp only [List.getElem?_cons_zero,Option.some.injEq] at hj
        rw [show j = p by omega,hp,hj]
theorem WB.off {k : Nat} (h : WB w A β H) : WB w A β (H.set k .dead):=⟨fun j o blk ho hb=>by
  by_cases hj : k = j
  . subst hj
    by_cases hl : k < H.length
    . rw [List.getElem?_set_self hl] at hb; cases hb
      cases o <;> trivial
    . rw [List.getElem?_eq_none (by simp; omega)] at hb; cases hb
  . rw [List.getElem?_set_ne hj] at hb; exact h.blk j o blk ho hb⟩
theorem Cur.turned {w1 : World} {k : Nat} {o : Option Nat} {wd : Nat} {ys : List (List SV)} (h : Cur w0 A0 β0 M ks w A β H) (hkl : k < β.length) (hks : M <= k \/ k ∈ ks) (hf : Frm [(β[k]?).join] w w1) (ho : ∀ b,o = some b -> b < w1.heap.size /\ (b < w.heap.size -> β[k]? = some (some b)))
    (hb : ∀ (A2 : Nat -> Prop) (γ : List (Option Nat)),BlkRel w1 A2 γ o (.arr wd ys)) :
    Cur w0 A0 β0 M ks w1 (fun b=>A b \/ o = some b) (β.set k o) ((killH k H).set k (.arr wd ys)) /\ Stp A w w1 /\ (∀ b,b < w.heap.size -> (A b \/ o = some b) -> A b):=by
  have hjoin : ∀ b,(β[k]?).join = some b -> β[k]? = some (some b):=fun b hb=>by
    cases hq : β[k]? with
    | none=>simp [hq] at hb
    | some o=>simp [hq] at hb; rw [hb]
  have hf' : Frm β w w1:=⟨hf.os,hf.tape,hf.output,hf.drn,hf.size,fun b hb hn=>hf.keep b hb fun hm=>hn (by
    have:=hjoin b (List.mem_singleton.1 hm).symm
    exact List.mem_of_getElem? this),hf.shp⟩
  have hstp:=hf'.stp h.own
  have hA : ∀ b,b < w.heap.size -> (A b \/ o = some b) -> A b:=fun b hlt hb=>hb.elim id fun e=>h.own k b ((ho b e).2 hlt)
  have hoth : ∀ (j b : Nat),j ≠ k -> (β.set k o)[j]? = some (some b) -> β[j]? = some (some b):=fun j b hj hb=>by rwa [List.getElem?_set_ne (Ne.symm hj)] at hb
  have hself : (β.set k o)[k]? = some o:=List.getElem?_set_self hkl
  -- what name k's block is not
  have hne : ∀ (j b : Nat),j ≠ k -> β[j]? = some (some b) -> o ≠ some b:=fun j b hj hb e=>by
    have h1:=(h.rel.own j b hb).2
    exact hj (h.rel.inj j k b hb ((ho b e).2 h1))
  refine ⟨⟨⟨by simp [killH_length,h.rel.len],fun j j' b h1 h2=>?_,fun j b hj=>?_,fun j p blk hp hbk=>?_⟩,fun b hb=>?_,h.frm.step hf' h.fresh,fun b hb=>?_,fun j b hj hb=>?_,fun j hj hn=>?_,by simp; exact h.more⟩,hstp,hA⟩
  . by_cases e1 : j = k <;> by_cases e2 : j' = k
    . omega
    . subst e1; rw [hself] at h1; exact absurd (Option.some.inj h1) (hne j' b e2 (hoth j' b e2 h2))
    . subst e2; rw [hself] at h2; exact absurd (Option.some.inj h2) (hne j b e1 (hoth j b e1 h1))
    . exact h.rel.inj j j' b (hoth j b e1 h1) (hoth j' b e2 h2)
  . by_cases e : j = k
    . subst e; rw [hself] at hj
      exact ⟨.inr (Option.some.inj hj),(ho b (Option.some.inj hj)).1⟩
    . have:=h.rel.own j b (hoth j b e hj)
      exact ⟨.inl this.1,Nat.lt_of_lt_of_le this.2 hf.size⟩
  . by_cases e : j = k
    . subst e
      rw [hself] at hp; cases hp
      rw [List.getElem?_set_self (by rw [killH_length,<- h.rel.len]; exact hkl)] at hbk
      cases hbk
      exact hb _ _
    . rw [List.getElem?_set_ne (Ne.symm e)] at hp hbk
      rw [killH_get] at hbk
      obtain ⟨blk',hb',rfl⟩:=Option.map_eq_some_iff.1 hbk
      refine (h.rel.blk j p blk' hp hb').killed hstp hA k (fun i c hi hc=>by rw [List.getElem?_set_ne (Ne.symm hi)]; exact hc) fun b e'=>?_
      refine hf.keep b (h.rel.own j b (by rw [hp,e'])).2 fun hm=>e ?_
      exact h.rel.inj j k b (by rw [hp,e']) (hjoin b (List.mem_singleton.1 hm).symm)
  . rcases hb with hb | hb
    . exact Nat.lt_of_lt_of_le (h.fin b hb) hf.size
    . exact (ho b hb).1
  . have:=h.agree b hb
    rw [<- this]
    exact ⟨hA b (Nat.lt_of_lt_of_le hb h.frm.size),.inl⟩
  . by_cases e : j = k
    . subst e; rw [hself] at hj
      have:=(ho b (Option.some.inj hj)).2 (Nat.lt_of_lt_of_le hb h.frm.size)
      exact h.fresh j b this hb
    . exact h.fresh j b (hoth j b e hj) hb
  . have hjk : j ≠ k:=fun e=>hn (e ▸ hks)
    rw [List.getElem?_set_ne (Ne.symm hjk)]; exact h.same j hj hn
theorem call_rel {c : Call} {f : Operand} (ho : o.op = .call c) (hf : c.callee = .value f) (h : xop P M ks (.call (cOpd f) (c.args.toList.map cOpd)) e H K) (hcur : Cur w0 A0 β0 M ks w A β H) (henv : EnvRel w A β e a.tmps) : rel P o a w (Then K w0 A0 β0 M ks a.tmps):=by
  simp only [xop] at h
  split at h
  . rename_i g pre caps hfn
    have hr' : ∀ x,x ∈ o.op.operands -> Rep w A β (ev e (cOpd x)) (a.eval x):=fun x hx=>ev_rep x fun t _=>henv t
    have hfrep:=hr' f (by simp [ho,Op.operands,Call.operands,hf])
    obtain ⟨us,vs,hav,hus,hvs⟩:=fnsOf_rep hfn hfrep
    have hargs:=map_reps (e:=e) (a:=a) c.args.toList fun x hx=>hr' x (by simp [ho,Op.operands,Call.operands,hf]; exact .inr (by simpa using hx))
    have hall:=reps_append (reps_append hus hargs) hvs
    have hrun : (∀ vs w,(callFunc g vs).run P w = .ok (.enter g vs) w) -> (execOp a.eval o).run P w = .ok (.enter g (us ++ c.args.toList.map a.eval ++ vs).toArray) w:=by
      intro hcall
      simp only [execOp,ho,resolve,hf,hav,Deferred.ofValue,Sem.run_bind,Sem.run_pure,Result.andThen_ok,invoke]
      have : (us.toArray ++ c.args.map a.eval ++ vs.toArray) = (us ++ c.args.toList.map a.eval ++ vs).toArray:=by
        apply Array.ext'; simp
      rw [this]
      exact hcall _ _
    rcases h with ⟨hp,res,hFS,hK⟩ | ⟨hp,res,Hn,hFO,hK⟩ | h | ⟨res,H',js,hHS,hjs,hK⟩ | h | h
    . unfold rel
      rw [hrun hFS.1]
      have hall':=reps_purely hall hp []
      refine (hFS.2 w A _ hcur.fin hall'.1 hall'.2).mono ?_
      rintro e' w' ⟨v,rfl,hb,hrep⟩
      exact ⟨v,rfl,_,_,_,A,β,hK,hcur.below hb,henv.mono (Stp.below hb) (fun _ _ h=>h) (fun _ _ h=>h),hrep.more _ fun k b h=>by simp at h⟩
    . unfold rel
      rw [hrun hFO.1]
      have hall':=reps_purely hall hp []
      refine (hFO.2 w A _ hcur.fin hall').mono ?_
      rintro e' w' ⟨v,γ,rfl,hb,hW,hnew,hrep⟩
      refine ⟨v,rfl,_,_,_,_,β ++ γ,hK,hcur.join hb hW hnew,henv.mono (Stp.below hb) (fun c hc ha=>ha.resolve_right fun hm=>by have:=hnew c hm; omega) append_get,?_⟩
      rw [<- hcur.rel.len]
      exact hrep.shift β
    . obtain ⟨sv,hK,hg⟩:=call_good ho hf (e:=e) (H:=H) (K:=fun sv=>K sv e H) (by simp only [pop,hfn]; exact .inr h)
      refine rel_mono (hg w A β a hcur.fin hcur.rel.wb fun t _=>henv t) fun v w' ⟨hb,hr⟩=>?_
      exact ⟨sv,e,H,A,β,hK,hcur.below hb,henv.mono (Stp.below hb) (fun _ _ h=>h) (fun _ _ h=>h),hr⟩
    . unfold rel
      rw [hrun hHS.1]
      refine (hHS.2 w A β _ hcur.fin hcur.rel hall).mono ?_
      rintro e' w' ⟨v,A',β',rfl,hfrm,hfin,hW,hag,hfr,hsame,hmore,hrep⟩
      refine ⟨v,rfl,_,_,_,A',β',hK,⟨hW,hfin,hcur.frm.step hfrm hcur.fresh,fun b hb=>?_,fun k b hk hb=>?_,fun k hk hn=>?_,Nat.le_trans hcur.more hmore⟩,?_,hrep⟩
      . exact (hag b (Nat.lt_of_lt_of_le hb hcur.frm.size)).trans (hcur.agree b hb)
      . have:=hfr k b hk (Nat.lt_of_lt_of_le hb hcur.frm.size)
        obtain ⟨i,hi,he⟩:=List.getElem_of_mem this
        exact hcur.fresh i b (by simp [hi,he]) hb
      . rw [hsame k (Nat.lt_of_lt_of_le hk hcur.more) fun hm=>hn (hjs k hm)]
        exact hcur.same k hk hn
      . refine EnvRel.kills (hfrm.stp hcur.own) (fun b hb ha=>(hag b hb).1 ha) js e henv fun j b hj hb=>?_
        rw [hsame j (List.getElem?_eq_some_iff.1 hb).1 hj]; exact hb
    . obtain ⟨ys,⟨res,Hn,hFO,hlo,hlo2,hK⟩,hz⟩:=frzs_reps h hcur.rel.wb hall
      unfold rel
      rw [hrun hFO.1]
      refine (hFO.2 w _ _ (fun b hb=>hcur.fin b hb.1) hz).mono ?_
      rintro e' w' ⟨v,γ,rfl,hb,hW,hnew,hrep⟩
      have hW' : WRel w' (fun b=>A b \/ some b ∈ γ) γ Hn:=⟨hW.len,hW.inj,fun k b hk=>⟨.inr (List.mem_of_getElem? hk),(hW.own k b hk).2⟩,fun k o blk ho hbk=>(hW.blk k o blk ho hbk).loosely (hlo2 blk (List.mem_of_getElem? hbk)) _⟩
      refine ⟨v,rfl,_,_,_,_,β ++ γ,hK,hcur.join hb hW' hnew,henv.mono (Stp.below hb) (fun c hc ha=>ha.resolve_right fun hm=>by have:=hnew c hm; omega) append_get,?_⟩
      rw [<- hcur.rel.len]
      exact (hrep.loosely hlo _).shift β
    . unfold frameK at h
      split at h
      . rename_i k wd i n rest has
        split at h
        . rename_i wd' xs hHk
          obtain ⟨hks,hh⟩:=h
          rw [has] at hall
          have hkl : k < β.length:=by rw [hcur.rel.len]; exact (List.getElem?_eq_some_iff.1 hHk).1
          obtain ⟨rest',⟨res,wd2,ys,js,hHS,hlo,hlo2,hK⟩,hl,hys⟩:=frzs_sound (frzK_sound 4) rest _ hh
          have hC:=hs_frame hl hys hHS hlo hlo2 hcur.rel.wb.off hcur.fin (fun b hb=>⟨hcur.own k b hb,hcur.rel.blk k (some b) _ hb hHk,fun k' blk h1 h2=>by
            have:=hcur.rel.inj k' k b h1 hb
            subst this
            rw [List.getElem?_set_self (by rw [<- hcur.rel.len]; exact hkl)] at h2
            cases h2; rfl⟩) hall
          unfold rel
          rw [hrun hHS.1]
          refine hC.mono ?_
          rintro e' w' ⟨v,o,rfl,hfrm,hob,hblk,hrep⟩
          obtain ⟨hcur',hstp,hA⟩:=hcur.turned hkl hks hfrm hob hblk
          exact ⟨v,rfl,_,_,_,_,β.set k o,hK,hcur',henv.kill hstp hA k (fun j b hj hb=>by rw [List.getElem?_set_ne (Ne.symm hj)]; exact hb),hrep _ _ k (List.getElem?_set_self hkl)⟩
        . exact h.elim
      . exact h.elim
  . exact h.elim
theorem xop_rel (hc : cop P o = some op) (h : xop P M ks op e H K) (hcur : Cur w0 A0 β0 M ks w A β H) (henv : EnvRel w A β e a.tmps) : rel P o a w (Then K w0 A0 β0 M ks a.tmps):=by
  have still : (pop P op e H fun sv=>K sv e H) -> rel P o a w (Then K w0 A0 β0 M ks a.tmps):=fun h=>by
    obtain ⟨sv,hK,hg⟩:=pop_sound hc h
    refine rel_mono (hg w A β a hcur.fin hcur.rel.wb fun t _=>henv t) fun v w' ⟨hb,hr⟩=>?_
    exact ⟨sv,e,H,A,β,hK,hcur.below hb,henv.mono (Stp.below hb) (fun _ _ h=>h) (fun _ _ h=>h),hr⟩
  cases hop : o.op with
  | alloc t =>
    simp only [cop,hop] at hc
    obtain ⟨z,hz,rfl⟩:=Option.map_eq_some_iff.1 hc
    exact al_rel hop hz h hcur henv
  | box t x =>
    simp only [cop,hop,Option.some.injEq] at hc; subst hc
    simp only [xop] at h
    split at h
    . rename_i fs hfs; exact bx_rel hop hfs h hcur henv
    . exact h.elim
  | store t x y =>
    simp only [cop,hop] at hc
    obtain ⟨s,hs,rfl⟩:=Option.map_eq_some_iff.1 hc
    exact st_rel hop hs h hcur henv
  | makeSlice t l c =>
    simp only [cop,hop] at hc
    split at hc
    . rename_i el hu
      split at hc
      . rename_i i z hi hz
        split at hc
        . rename_i hcond
          cases hc
          exact mk_rel hop hu hi hz hcond.1 hcond.2 h hcur henv
        . cases hc
      . cases hc
    . cases hc
  | call c =>
    have hc':=hc
    simp only [cop,hop] at hc
    split at hc
    . rename_i f hf
      cases hc
      exact call_rel hop hf h hcur henv
    . cases hc; exact still h
    . rename_i b hb
      split at hc
      . cases hc; exact still h
      . cases hc; exact still h
      . cases hc; exact still h
      . cases hc; exact still h
      . rename_i x y el el' hargs hts
        split at hc
        . rename_i i z hi hz
          split at hc
          . rename_i hcond
            cases hc
            exact ap_rel hop hb hargs hts hi hz hcond.1 hcond.2 h hcur henv
          . cases hc
        . cases hc
      . rename_i x y el el' hargs hts
        split at hc
        . rename_i s hs
          split at hc
          . rename_i hpos
            cases hc
            exact cp_rel hop hb hargs hts hs hpos h hcur henv
          . cases hc
        . cases hc
      . rename_i x el hargs hts
        split at hc
        . rename_i z hz
          split at hc
          . rename_i hpos
            cases hc
            exact clr_rel hop hb hargs hts hz hpos h hcur henv
          . cases hc
        . cases hc
      . cases hc; exact still h
  | _ =>
    refine still ?_
    cases op <;> first | exact h | (exfalso; simp only [cop,hop] at hc; (repeat' split at hc) <;> simp_all [Option.map_eq_some_iff,Option.bind_eq_some_iff])
end
end
section
open Go.RowKit
section
variable {γ : Type} {P : Program} {ops : Array Oper} {R : World × γ -> World × γ -> Prop} {U : Nat -> World × γ -> Prop} {s0 : World × γ} {md : Region.Mode} {Q : Exit -> Act -> World -> Prop} {m : Nat}
theorem freeB_spec {i : Nat} {o : Oper} (h : Oper.freeB md ops i o = true) : o.guard = none /\ (∀ e ∈ o.after,Region.binds md e = false) /\ (∃ x,o.op = .move x) /\ (∃ d,o.dst = some d) /\
    ∀ (j : Nat) (oj : Oper),ops[j]? = some oj -> j ≠ i -> (∃ e ∈ oj.after,Region.binds md e = true /\ e.on = i) \/ o.apart ops oj = true:=by
  simp only [Oper.freeB,Bool.and_eq_true] at h
  obtain ⟨⟨⟨⟨h1,h2⟩,h3⟩,h4⟩,h5⟩:=h
  refine ⟨by simpa using h1,fun e he=>?_,?_,Option.isSome_iff_exists.1 h4,fun j oj hj hji=>?_⟩
  . have:=Array.all_eq_true_iff_forall_mem.1 h2 e he
    simpa using this
  . split at h3
    . exact ⟨_,by assumption⟩
    . cases h3
  . have hjs : j < ops.size:=(Array.getElem?_eq_some_iff.1 hj).1
    have:=List.all_eq_true.1 h5 j (List.mem_range.2 hjs)
    simp only [hj,Bool.or_eq_true,decide_eq_true_eq] at this
    rcases this with h | h | h
    . exact absurd h hji
    . obtain ⟨e,he,hb⟩:=Array.any_eq_true'.1 h
      simp only [Bool.and_eq_true,beq_iff_eq] at hb
      exact .inl ⟨e,he,hb.1,hb.2⟩
    . exact .inr h
theorem freeE_spec {n i : Nat} (h : i ∈ freeE md ops n) : i < n /\ ∃ o,ops[i]? = some o /\ Oper.freeB md ops i o = true:=by
  simp only [freeE,List.mem_filter,List.mem_range] at h
  refine ⟨h.1,?_⟩
  have h2:=h.2
  split at h2
  . exact ⟨_,by assumption,h2⟩
  . cases h2
theorem eval_unwritten {o : Oper} {d : Tmp} {v : Value} {x : Operand} (hx : o.op = .move x) (h : d ∉ o.looksAt ops) (a : Act) : (a.put (some d) v).eval x = a.eval x:=by
  cases x with
  | tmp t =>
    have : t ∈ o.looksAt ops:=List.mem_append_left _ (List.mem_filterMap.2 ⟨.tmp t,by simp [hx,Op.operands],rfl⟩)
    have hne : d ≠ t:=fun e=>h (e ▸ this)
    simp only [Act.eval,put_getD,hne,false_and,if_false]
  | const=>rfl
  | global=>rfl
  | func=>rfl
theorem putE_spec : ∀ (E : List Nat),E.Nodup -> (∀ i ∈ E,∃ o,ops[i]? = some o /\ Oper.freeB md ops i o = true) -> ∀ a : Act,(putE ops E a).tmps.size = a.tmps.size /\ (putE ops E a).defers = a.defers /\
    (∀ t,(∀ i ∈ E,∀ o,ops[i]? = some o -> o.dst ≠ some t) -> (putE ops E a).tmps.getD t undef = a.tmps.getD t undef) /\
    ∀ i ∈ E,∀ (o : Oper) (x : Operand) (t : Tmp),ops[i]? = some o -> o.op = .move x -> o.dst = some t -> t < a.tmps.size -> (putE ops E a).tmps.getD t undef = a.eval x
  | [],_,_,a=>⟨rfl,rfl,fun _ _=>rfl,fun i hi=>by cases hi⟩
  | i :: E, hnd, hE, a => by
    obtain ⟨o,ho,hf⟩:=hE i (by simp)
    obtain ⟨hg,_,⟨x,hx⟩,⟨d,hd⟩,hap⟩:=freeB_spec hf
    have hnd':=List.nodup_cons.1 hnd
    obtain ⟨h1,h2,h3,h4⟩:=putE_spec E hnd'.2 (fun j hj=>hE j (by simp [hj])) (a.put o.dst (a.eval x))
    have e : putE ops (i::E) a = putE ops E (a.put o.dst (a.eval x)):=by simp [putE,ho,hx]
    -- a later one is apart from this one
    have apart : ∀ j ∈ E,∀ oj,ops[j]? = some oj -> o.apart ops oj = true:=fun j hj oj hoj=>by
      have hji : j ≠ i:=fun e=>hnd'.1 (e ▸ hj)
      rcases hap j oj hoj hji with ⟨e,he,hb,_⟩ | h
      . obtain ⟨oj',hoj',hfj⟩:=hE j (by simp [hj])
        rw [hoj] at hoj'
        obtain rfl:=Option.some.inj hoj'
        have:=(freeB_spec hfj).2.1 e he
        rw [hb] at this; cases this
      . exact h
    rw [e]
    refine ⟨by rw [h1,hd]; simp [Act.put],by rw [h2,hd]; simp [Act.put],fun t ht=>?_,fun j hj oj y t hoj hy hdj ht=>?_⟩
    . rw [h3 t fun j hj oj hoj=>ht j (by simp [hj]) oj hoj,hd,put_getD,if_neg]
      intro ⟨h,_⟩
      exact ht i (by simp) o ho (by rw [hd,h])
    . rcases List.mem_cons.1 hj with rfl | hj
      . rw [ho] at hoj
        obtain rfl:=Option.some.inj hoj
        rw [hx] at hy; cases hy
        rw [hd] at hdj; cases hdj
        rw [h3 d fun k hk ok hok=>fun hdk=>(Oper.apart_spec (apart k hk ok hok)).2.1 d hd (by rw [hdk]),hd,put_getD,if_pos ⟨rfl,ht⟩]
      . rw [h4 j hj oj y t hoj hy hdj (by rw [hd]; simpa [Act.put] using ht),hd]
        exact eval_unwritten (ops:=ops) hy ((Oper.apart_spec (apart j hj oj hoj)).1 d hd) a
theorem listE_getD : ∀ (E : List Nat) (l : Array Bool) (j : Nat) (b : Bool),(∀ i ∈ E,i < l.size) -> (listE E l).size = l.size /\ (listE E l).getD j b = if j ∈ E then true else l.getD j b
  | [],l,j,b,_=>⟨rfl,by simp [listE]⟩
  | i :: E, l, j, b, h => by
    obtain ⟨h1,h2⟩:=listE_getD E (l.setIfInBounds i true) j b (fun k hk=>by simpa using h k (by simp [hk]))
    refine ⟨by simp [listE,h1],?_⟩
    simp only [listE,h2]
    by_cases hj : j ∈ E
    . simp [hj]
    . by_cases hij : j = i
      . subst hij
        have:=h j (by simp)
        simp [this,Array.getD]
      . simp only [hj,if_false,List.mem_cons,hij,or_self]
        exact getD_set_ne b (Ne.symm hij)
theorem take_free (hsel : Region.noSelect ops = true) (hQ : ∀ c a w, ¬ Q (.panic c) a w) : ∀ (E : List Nat) (l : Array Bool) (a : Act) (w : World), E.Nodup → l.size = ops.size → (∀ i ∈ E, l.getD i true = false) → (∀ i ∈ E, ∃ o, ops[i]? = some o ∧ Oper.freeB md ops i o = true) →
    (∀ fuel,left (listE E l) = fuel -> wpAnyIn Fence.wide m P md ops Q fuel (listE E l) (putE ops E a) w) -> ∀ fuel,left l = fuel -> wpAnyIn Fence.wide m P md ops Q fuel l a w
  | [],l,a,w,_,_,_,_,h=>h
  | i :: E, l, a, w, hnd, hsz, hun, hE, h => by
    intro fuel hfuel
    obtain ⟨o,ho,hf⟩:=hE i (by simp)
    obtain ⟨hg,hafter,⟨x,hx⟩,⟨d,hd⟩,hap⟩:=freeB_spec hf
    have hnd':=List.nodup_cons.1 hnd
    have hui:=hun i (by simp)
    have hpos : 0 < left l:=by
      have hlt : i < l.size:=by rw [hsz]; exact (Array.getElem?_eq_some_iff.1 ho).1
      unfold left
      apply List.length_pos_of_mem (a:=false)
      refine List.mem_filter.2 ⟨?_,rfl⟩
      have : l[i] = false:=by simpa [Array.getD,hlt] using hui
      rw [<- this]; simp
    obtain ⟨f',rfl⟩ : ∃ f',fuel = f' + 1:=⟨fuel - 1,by omega⟩
    have ih:=take_free hsel hQ E (l.setIfInBounds i true) (a.put o.dst (a.eval x)) w hnd'.2 (by simpa using hsz) (fun j hj=>by
        have hji : i ≠ j:=fun e=>hnd'.1 (e ▸ hj)
        rw [getD_set_ne true hji]; exact hun j (by simp [hj])) (fun j hj=>hE j (by simp [hj])) (by
        have e : putE ops (i::E) a = putE ops E (a.put o.dst (a.eval x)):=by simp [putE,ho,hx]
        rw [<- e]; exact h) f' (count_step' hui f' (by unfold left at hfuel; omega))
    refine wpAnyIn_first (F:=Fence.wide) rfl ho (Region.noSelect_spec hsel) (fun c a w h=>absurd h (hQ _ _ _)) f' l a w (fun j oj hoj hji hunj hno=>?_) ?_ (v:=a.eval x) ⟨.inl ⟨?_,fun w=>?_⟩,fun w=>?_⟩ ih
    . rcases hap j oj hoj hji with ⟨e,he,hb,hon⟩ | h
      . exact absurd hon (hno e he hb)
      . exact h
    . exact mem_ready.2 ⟨hui,o,ho,fun e he hb=>by rw [hafter e he] at hb; cases hb⟩
    . simp [Region.wanted,hg]
    . simp [execOp,hx]
    . simp [Oper.about,hx]
def Region.lawB (ops : Array Oper) (n N : Nat) : Bool :=
  Region.noSelect ops && Region.pairB .any ops && Region.backB .any ops && Region.dstB ops n N && (decide (n = ops.size) ||
    (decide (n < ops.size) && Region.sinkE .any ops (freeE .any ops n) n && Region.chainE .any ops n && Region.seqB .any ops (ops.size - n) n (Array.replicate n true ++ Array.replicate (ops.size - n) false)))
theorem left_replicate (n : Nat) : left (Array.replicate n false) = n:=by
  unfold left
  simp
theorem region_law {l : List Oper} (hl : ops = l.toArray) {a : Act} {w : World} {n N : Nat} {F : Nat -> Fact γ} {C0 : Tmp -> Fact γ} (g0 : γ) (hs0 : s0 = (w.drew,g0)) (hrf : ∀ s,R s s) (htr : ∀ a b c,R a b -> R b c -> R a c)
    (hN : a.tmps.size = N) (hB : Region.lawB ops n N = true) (hQp : ∀ c a w,¬ Q (.panic c) a w)
    (hU : ∀ k,U k s0) (hC0 : ∀ t,C0 t (a.tmps.getD t undef) s0) (hCs : ∀ t,Stable R (C0 t))
    (hO : ∀ (j : Nat) (oj : Oper),j < n -> ops[j]? = some oj -> Obl P ops R U s0 N a.defers (Cat ops F C0 j) j oj (F j))
    (hE : ∀ (i : Nat) (oi : Oper) (x : Operand),i < n -> ops[i]? = some oi -> Oper.freeB .any ops i oi = true -> oi.op = .move x -> F i (a.eval x) s0)
    (hQ : ∀ (a' : Act) (s : World × γ),R s0 s -> a'.tmps.size = N -> a'.defers = a.defers -> (∀ t,t < N -> Cat ops F C0 n t (a'.tmps.getD t undef) s) -> wpListIn Fence.wide m P ops Q (l.drop n) a' s.1) :
    wpAnyIn Fence.wide m P .any ops Q ops.size (Array.replicate ops.size false) a { w with drawn:=w.drawn + 1 }:=by
  simp only [Region.lawB,Bool.and_eq_true,Bool.or_eq_true,decide_eq_true_eq] at hB
  obtain ⟨⟨⟨⟨hsel,hpair⟩,hback⟩,hdst⟩,hB⟩:=hB
  have hnsz : n <= ops.size:=by rcases hB with h | h <;> omega
  have hEm : ∀ i ∈ freeE .any ops n,i < n /\ ∃ o,ops[i]? = some o /\ Oper.freeB .any ops i o = true:=fun i hi=>freeE_spec hi
  have hnd : (freeE .any ops n).Nodup:=List.Nodup.sublist List.filter_sublist List.nodup_range
  obtain ⟨p1,p2,p3,p4⟩:=putE_spec (md:=.any) (freeE .any ops n) hnd (fun i hi=>(hEm i hi).2) a
  have hlE : ∀ (j : Nat) (b : Bool),(listE (freeE .any ops n) (Array.replicate ops.size false)).size = ops.size /\ (listE (freeE .any ops n) (Array.replicate ops.size false)).getD j b = if j ∈ freeE .any ops n then true else (Array.replicate ops.size false).getD j b:=fun j b=>by
    have:=listE_getD (freeE .any ops n) (Array.replicate ops.size false) j b (fun i hi=>by have:=(hEm i hi).1; simp; omega)
    simpa using this
  have hs01 : s0.1 = { w with drawn:=w.drawn + 1 }:=by rw [hs0]; rfl
  have inv : Inv .any ops R U s0 F a n N (listE (freeE .any ops n) (Array.replicate ops.size false)) (putE ops (freeE .any ops n) a) s0:=by
    refine ⟨⟨(hlE 0 false).1,fun j oj hoj hl e he hb=>?_,fun t ht hts=>?_⟩,hrf _,by rw [p1,hN],p2,fun i oi t hin hoi hd hl=>?_,fun t ht=>?_,fun k _ _=>hU k⟩
    . rw [(hlE j false).2] at hl
      split at hl
      . rename_i hj
        obtain ⟨_,o',ho',hf⟩:=hEm j hj
        rw [hoj] at ho'
        obtain rfl:=Option.some.inj ho'
        have:=(freeB_spec hf).2.1 e he
        rw [hb] at this; cases this
      . simp [Array.getD] at hl
    . rw [(hlE t true).2,if_neg]
      . simp [Array.getD,hts]
      . intro h; have:=(hEm t h).1; omega
    . rw [(hlE i false).2] at hl
      split at hl
      . rename_i hi
        obtain ⟨_,o',ho',hf⟩:=hEm i hi
        rw [hoi] at ho'
        obtain rfl:=Option.some.inj ho'
        obtain ⟨x,hx⟩:=(freeB_spec hf).2.2.1
        have hdN:=(dst_spec hdst hin hoi).1 t hd
        rw [p4 i hi oi x t hoi hx hd (by rw [hN]; exact hdN)]
        exact hE i oi x hin hoi hf hx
      . simp [Array.getD] at hl
    . refine p3 t fun i hi o ho hd=>?_
      have:=ht i o (hEm i hi).1 ho hd
      rw [(hlE i false).2,if_pos hi] at this
      cases this
  refine take_free hsel hQp (freeE .any ops n) _ a _ hnd (by simp) (fun i hi=>?_) (fun i hi=>(hEm i hi).2) ?_ _ (left_replicate _)
  . have:=(hEm i hi).1
    simp [Array.getD,show i < ops.size by omega]
  intro fuel hfuel
  rw [<- hs01]
  rcases hB with hnEq | ⟨⟨⟨hn,hsink⟩,hchain⟩,hseq⟩
  . subst hnEq
    refine wpAny_of_inv hrf htr hpair hback hdst hC0 hCs hO (fun a' s h1 h2 h3 h4=>?_) fuel _ _ s0 (by omega) inv
    have:=hQ a' s h1 h2 h3 h4
    have hd : l.drop ops.size = []:=by rw [hl]; simp
    rw [hd] at this
    exact this
  . have hdl : (l.drop n).length = ops.size - n:=by rw [hl]; simp
    have hlt : ops.size - n <= left (listE (freeE .any ops n) (Array.replicate ops.size false)):=by
      have h1 : ((listE (freeE .any ops n) (Array.replicate ops.size false)).toList.drop n).filter (!·) = (listE (freeE .any ops n) (Array.replicate ops.size false)).toList.drop n:=by
        rw [List.filter_eq_self]
        intro x hx
        obtain ⟨k,hk,rfl⟩:=List.mem_iff_getElem.1 hx
        simp only [List.length_drop,Array.length_toList,(hlE 0 false).1] at hk
        have:=inv.head.tail (n + k) (by omega) (by omega)
        have hlt : n + k < (listE (freeE .any ops n) (Array.replicate ops.size false)).size:=by rw [(hlE 0 false).1]; omega
        simp only [Array.getD,hlt,dif_pos] at this
        simpa using this
      unfold left
      rw [<- List.take_append_drop n (listE (freeE .any ops n) (Array.replicate ops.size false)).toList,List.filter_append,h1,List.length_append,List.length_drop]
      have hsz : (listE (freeE .any ops n) (Array.replicate ops.size false)).toList.length = ops.size:=(hlE 0 false).1
      rw [hsz]
      omega
    have:=wpAny_of_inv_tail (P:=P) (m:=m) (Q':=Q) (E:=freeE .any ops n) hrf htr hpair hback hdst hC0 hCs hn hsink hchain hO (ops.size - n)
      (fun listed a' s h1 h2 h3 h4 h5 h6=>by
        have e : listed = Array.replicate n true ++ Array.replicate (ops.size - n) false:=by
          refine Array.ext (by simp [h5]; omega) fun i hi hi'=>?_
          have:=h6 i (by omega)
          simp only [Array.getD,hi,dif_pos] at this
          rw [Array.getElem_append]
          by_cases hin : i < n
          . simp [hin] at this ⊢
            exact this
          . simp [hin] at this ⊢
            exact this
        rw [e,<- hdl]
        exact wpAnyIn_of_seq (md:=.any) (Q':=Q) (l.drop n) n _ a' s.1 (fun j=>by rw [hl]; simp [List.getElem?_drop]) (by rw [hdl]; exact hseq) (hQ a' s h1 h2 h3 h4)) (fuel - (ops.size - n)) _ _ s0 (by omega) (fun i hi=>by rw [(hlE i false).2,if_pos hi]) inv
    rwa [show fuel - (ops.size - n) + (ops.size - n) = fuel by omega] at this
end
end
section
open Go.RowKit
inductive Ex where
  | normal
  | exit (id : Nat)
  | ret
def Ex.to : Ex -> Exit
  | .normal=>.normal
  | .exit id=>.exit id
  | .ret=>.ret
structure Br (b : Bool) (T F : Prop) : Prop where
  t : b = true -> T
  f : b = false -> F
theorem Br.tt {T F : Prop} (h : T) : Br true T F:=⟨fun _=>h,(fun h=>nomatch h)⟩
theorem Br.ff {T F : Prop} (h : F) : Br false T F:=⟨(fun h=>nomatch h),fun _=>h⟩
theorem Br.dec {p : Prop} [Decidable p] {T F : Prop} (h : p -> T) (k : ¬ p -> F) : Br (decide p) T F:=⟨fun e=>h (of_decide_eq_true e),fun e=>k (of_decide_eq_false e)⟩
theorem Br.neg {b : Bool} {T F : Prop} (h : Br b F T) : Br (!b) T F:=⟨fun e=>h.f (by simpa using e),fun e=>h.t (by simpa using e)⟩
def guardK (e : Env) (g : Option (Nat × Bool)) (run skip : Env → Prop) : Prop :=
  match g with
  | none=>run e
  | some (t, want) => match look e t with
    | .bool b => match want with
      | true=>Br b (run ((t,.bool true)::e)) (skip ((t,.bool false)::e))
      | false=>Br b (skip ((t,.bool true)::e)) (run ((t,.bool false)::e))
    | .tup []=>skip e
    | _=>False
def memN (k : Nat) : List Nat -> Bool
  | []=>false
  | j::js=>Nat.beq k j || memN k js
def eatK (P : Program) (n0 : Nat) (g : FuncId) (as : List SV) (H : List Blk) (Q : List Nat) (K : SV → Option Nat → List Blk → Prop) : Prop :=
  match as with
  | .osl k wd i n :: rest => match H[k]? with
    | some (.shut wd' xs)=>Nat.ble n0 k = true /\ memN k Q = false /\ frzs (frzK 4 H) rest fun rest=>∃ res wd2 ys js,HS P g (.osl 0 wd i n::rest) [.arr wd' xs] res [.arr wd2 ys] js /\ SV.loose res = true /\ Blk.loose (.arr wd2 ys) /\ K (res.shift H.length) (some k) [.arr wd2 ys]
    | _=>False
  | _=>False
def dcallK (P : Program) (n0 : Nat) (g : FuncId) (as : List SV) (H : List Blk) (Q : List Nat) (K : SV -> Option Nat -> List Blk -> Prop) : Prop :=
  (SV.pure.pureL as = true /\ ∃ res,FS P g as res /\ K res none []) \/
  (SV.pure.pureL as = true /\ ∃ res Hn,FO P g as res Hn /\ K (res.shift H.length) none (shiftH H.length Hn)) \/
  (lendK P g as H fun res=>K res none []) \/
  eatK P n0 g as H Q K \/
  (frzs (frzK 4 H) as fun as=>∃ res Hn,FO P g as res Hn /\ SV.loose res = true /\ (∀ b ∈ Hn,Blk.loose b) /\ K (res.shift H.length) none (shiftH H.length Hn)) \/
  (frzs (frzK 4 H) as fun as=>∃ res wd xs,FO P g as res [.arr wd xs] /\ SV.loose res = true /\ Blk.loose (.arr wd xs) /\ K (res.shift H.length) none [.shut wd xs])
def dop (P : Program) (n0 : Nat) (op : IOp) (e : Env) (H : List Blk) (Q : List Nat) (K : SV → Option Nat → List Blk → Prop) : Prop :=
  match op with
  | .al z=>K (.ptr H.length 0 0 0) none [.vars z]
  | .bx x => match cellsOf (ev e x) with
    | some fs=>K (.ptr H.length 0 0 0) none [.vars fs]
    | none=>False
  | .mk wd bytes z l c=>asI (ev e l) fun l=>asI (ev e c) fun c=>0 <= l /\ l <= c /\ (bytes : Int) * c <= 281474976710656 /\ c <= 9223372036854775807 /\ SV.pure.pureL z = true /\ K (.osl H.length wd 0 l.toNat) none [.arr wd (List.replicate l.toNat z)]
  | .call f args => match fnsOf (ev e f) with
    | some (g,pre,caps)=>dcallK P n0 g (pre ++ args.map (ev e) ++ caps) H Q K
    | none=>False
  | op=>pop P op e H fun sv=>K sv none []
def fc (v : SV) (K : SV -> Prop) : Prop :=
  match v with
  | .any=>K .any
  | .int k x=>K (.int k x)
  | .bool b=>K (.bool b)
  | .str s=>K (.str s)
  | .agg fs=>K (.agg fs)
  | .tup fs=>K (.tup fs)
  | .fn f caps=>K (.fn f caps)
  | .nils=>K .nils
  | .slc wd xs=>K (.slc wd xs)
  | .box cells j=>K (.box cells j)
  | .mth f x=>K (.mth f x)
  | .ptr k wd i j=>K (.ptr k wd i j)
  | .osl k wd i n=>K (.osl k wd i n)
  | .raw v=>K (.raw v)
  | .anyb=>K .anyb
theorem fc_eq (v : SV) (K : SV -> Prop) : fc v K = K v:=by cases v <;> rfl
def fl : List SV -> (List SV -> Prop) -> Prop
  | [],K=>K []
  | x::xs,K=>fc x fun x=>fl xs fun xs=>K (x::xs)
theorem fl_eq : ∀ (xs : List SV) (K : List SV -> Prop),fl xs K = K xs
  | [],_=>rfl
  | x::xs,K=>by rw [fl,fc_eq,fl_eq xs]
def fh : List Blk → (List Blk → Prop) → Prop
  | [],K=>K []
  | b :: H, K => match b with
    | .dead=>fh H fun H=>K (.dead::H)
    | .shut wd xs=>fh H fun H=>K (.shut wd xs::H)
    | .vars cs=>fl cs fun cs=>fh H fun H=>K (.vars cs::H)
    | .arr wd xs=>fh H fun H=>K (.arr wd xs::H)
theorem fh_eq : ∀ (H : List Blk) (K : List Blk -> Prop),fh H K = K H
  | [],_=>rfl
  | b :: H, K => by
    cases b with
    | dead=>rw [fh,fh_eq H]
    | shut wd xs=>rw [fh,fh_eq H]
    | vars cs=>rw [fh,fl_eq,fh_eq H]
    | arr wd xs=>rw [fh,fh_eq H]
def IOp.moves : IOp -> Bool
  | .st .. | .ap .. | .cp .. | .clr .. | .al .. | .bx .. | .mk .. | .call ..=>true
  | _=>false
def fhi (op : IOp) (H : List Blk) (K : List Blk -> Prop) : Prop :=
  match op.moves with
  | true=>fh H K
  | false=>K H
theorem fhi_eq (op : IOp) (H : List Blk) (K : List Blk -> Prop) : fhi op H K = K H:=by
  unfold fhi; cases op.moves
  . rfl
  . exact fh_eq H K
def fhj (H Hn : List Blk) (K : List Blk -> Prop) : Prop :=
  match Hn with
  | []=>K H
  | b::t=>fh (H ++ (b::t)) K
theorem fhj_eq (H Hn : List Blk) (K : List Blk -> Prop) : fhj H Hn K = K (H ++ Hn):=by
  cases Hn with
  | nil=>rw [List.append_nil]; rfl
  | cons b t=>exact fh_eq _ _
def eatQ (ck : Option Nat) (Q : List Nat) : List Nat :=
  match ck with
  | none=>Q
  | some k=>k::Q
def deadHs : List Nat -> List Blk -> List Blk
  | [],H=>H
  | k::ks,H=>deadHs ks ((killH k H).set k .dead)
def endK (Q : List Nat) (e : Env) (H : List Blk) (K : Env -> List Blk -> Prop) : Prop :=
  match Q with
  | []=>K e H
  | k::Q=>fh (deadHs (k::Q) H) fun H=>K (killEs (k::Q) e) H
theorem endK_eq (Q : List Nat) (e : Env) (H : List Blk) (K : Env -> List Blk -> Prop) : endK Q e H K = K (killEs Q e) (deadHs Q H):=by
  cases Q with
  | nil=>rfl
  | cons k Q=>exact fh_eq _ _
abbrev DT:=Env -> List Blk -> List Nat -> (Env -> List Blk -> List Nat -> Prop) -> Prop
def dvcN : DT:=fun e H Q K=>K e H Q
def dvcC (P : Program) (n0 : Nat) (i : Ins) (_ : List Ins) (ih : DT) : DT:=fun e H Q K=>guardK e i.guard (fun e=>dop P n0 i.op e H Q fun sv ck Hn=>fc sv fun sv=>fhj H Hn fun H=>ih (setE e i.dst sv) H (eatQ ck Q) K) (fun e=>ih (setE e i.dst (.tup [])) H Q K)
def dvc (P : Program) (n0 : Nat) (ops : List Ins) : DT:=@List.rec Ins (fun _=>DT) dvcN (dvcC P n0) ops
theorem dvc_nil_eq {P : Program} {n0 : Nat} {e : Env} {H : List Blk} {Q : List Nat} {K : Env -> List Blk -> List Nat -> Prop} : dvc P n0 [] e H Q K = K e H Q:=rfl
theorem dvc_cons_eq {P : Program} {n0 : Nat} {i : Ins} {is : List Ins} {e : Env} {H : List Blk} {Q : List Nat} {K : Env -> List Blk -> List Nat -> Prop} : dvc P n0 (i::is) e H Q K = guardK e i.guard (fun e=>dop P n0 i.op e H Q fun sv ck Hn=>fc sv fun sv=>fhj H Hn fun H=>dvc P n0 is (setE e i.dst sv) H (eatQ ck Q) K) (fun e=>dvc P n0 is (setE e i.dst (.tup [])) H Q K):=rfl
/-! ### Iterators -/
structure ItStep (Bi A : Nat -> Prop) (W : World) (Bi' A' : Nat -> Prop) (W' : World) : Prop where
  os : W'.os = W.os
  tape : W'.tape = W.tape
  output : W'.output = W.output
  drn : W.drawn <= W'.drawn
  size : W.heap.size <= W'.heap.size
  keep : ∀ b,b < W.heap.size -> ¬ Bi b -> W'.heap[b]? = W.heap[b]?
  shp : ∀ (b : Nat) (cs : Array Value) (T : TypeId) (fr : Nat × Nat),W.heap[b]? = some (.cells cs T fr) -> ∃ (cs' : Array Value) (fr' : Nat × Nat),W'.heap[b]? = some (.cells cs' T fr') /\ cs'.size = cs.size
  agree : ∀ b,b < W.heap.size -> (A' b ↔ A b)
  fin : ∀ b,A' b -> b < W'.heap.size
  sub : ∀ b,Bi' b -> Bi b \/ W.heap.size <= b
  own : ∀ b,Bi' b -> A' b
structure RoundStep (Bi A : Nat -> Prop) (W : World) (A' : Nat -> Prop) (W' : World) : Prop where
  stp : Stp A W W'
  bi : ∀ b,Bi b -> W'.heap[b]? = W.heap[b]?
  agree : ∀ b,b < W.heap.size -> (A' b ↔ A b)
  fin : ∀ b,A' b -> b < W'.heap.size
def IT (P : Program) (g : FuncId) (caps : List SV) (Hc : List Blk) (xs : List (List SV)) : Prop :=
  (∀ vs w,(callFunc g vs).run P w = .ok (.enter g vs) w) /\
  ∀ (l : Nat) (w : World) (A : Nat → Prop) (β : List (Option Nat)) (vs : List Value) (J : Option Nat → (Nat → Prop) → (Nat → Prop) → World → Prop), (∀ b, A b → b < w.heap.size) → WRel w A β Hc → Reps w A β caps vs →
    J (some 0) (fun b=>some b ∈ β) A w ->
    (∀ g Bi A W Bi' A' W',J g Bi A W -> ItStep Bi A W Bi' A' W' -> J g Bi' A' W') ->
    (∀ (i : Nat) (x : List SV) (us : List Value) (Bi A : Nat → Prop) (W : World), xs[i]? = some x → J (some i) Bi A W → (∀ b, A b → b < W.heap.size) → (∀ b, Bi b → A b) → Reps W A [] x us →
      ∃ (fn : FuncId) (tmps : Array Value) (assign body : Code), (Instr.yield l us.toArray).run P W = .ok (.round l fn tmps assign body) W ∧
        RoundIn Fence.wide 0 P l fn tmps assign body W fun e W'=>∃ (b : Bool) (A' : Nat -> Prop),e = .returned (.bool b) /\ J (if b then some (i + 1) else none) Bi A' W' /\ RoundStep Bi A W A' W') ->
    Calls P g (.func (.yield l) #[] #[]::vs).toArray w fun e w'=>∃ (v : Value) (g : Option Nat) (Bi A' : Nat -> Prop),e = .returned v /\ (g = some xs.length \/ g = none) /\ J g Bi A' w'
structure Yv where
  out : Bool
  l : Nat
  xs : List (List SV)
  /-- Operations that are told apart: from what is known (the ghost) to what they yield. -/
  oth : IOp -> Env -> List Blk -> Option (Option Nat -> (SV -> Option Nat -> Prop) -> Prop):=fun _ _ _=>none
  /-- The same, of operations that write into named blocks. -/
  othH : Nat -> List Nat -> IOp -> Env -> List Blk -> Option (Option Nat -> (SV -> Env -> List Blk -> Option Nat -> Prop) -> Prop):=fun _ _ _ _ _=>none
def yldOf : SV → Option Nat
  | .raw (.func (.yield l) a b) => match a.toList, b.toList with
    | [],[]=>some l
    | _,_=>none
  | _=>none
def isYld (op : IOp) (e : Env) : Option (Nat × List SV) :=
  match op with
  | .call f args => match yldOf (ev e f) with
    | some l=>some (l,args.map (ev e))
    | none=>none
  | _=>none
def yop (P : Program) (M : Nat) (ks : List Nat) (y : Yv) (op : IOp) (e : Env) (H : List Blk) (g : Option Nat) (K : SV -> Env -> List Blk -> Option Nat -> Prop) : Prop :=
  match y.oth op e H with
  | some T=>y.out = false /\ T g fun sv g'=>K sv e H g'
  | none=>match y.othH M ks op e H with
  | some T=>y.out = false /\ T g K
  | none=>match isYld op e with
  | some (l,as)=>y.out = false /\ l = y.l /\ SV.pure.pureL as = true /\ ∃ i,g = some i /\ y.xs[i]? = some as /\ K (.bool true) e H (some (i + 1)) /\ K (.bool false) e H none
  | none=>xop P M ks op e H fun sv e H=>K sv e H g
abbrev RT:=Env -> List Blk -> Option Nat -> (Env -> List Blk -> Option Nat -> Prop) -> Prop
def rvcN : RT:=fun e H g K=>K e H g
def rvcC (P : Program) (M : Nat) (ks : List Nat) (y : Yv) (i : Ins) (_ : List Ins) (ih : RT) : RT:=fun e H g K=>guardK e i.guard (fun e=>yop P M ks y i.op e H g fun sv e H g=>fc sv fun sv=>fhi i.op H fun H=>ih (setE e i.dst sv) H g K) (fun e=>ih (setE e i.dst (.tup [])) H g K)
def rvc (P : Program) (M : Nat) (ks : List Nat) (y : Yv) (ops : List Ins) : RT:=@List.rec Ins (fun _=>RT) rvcN (rvcC P M ks y) ops
theorem rvc_cons_eq {P : Program} {M : Nat} {ks : List Nat} {y : Yv} {i : Ins} {is : List Ins} {e : Env} {H : List Blk} {g : Option Nat} {K : Env -> List Blk -> Option Nat -> Prop} : rvc P M ks y (i::is) e H g K = guardK e i.guard (fun e=>yop P M ks y i.op e H g fun sv e H g=>fc sv fun sv=>fhi i.op H fun H=>rvc P M ks y is (setE e i.dst sv) H g K) (fun e=>rvc P M ks y is (setE e i.dst (.tup [])) H g K):=rfl
def setB (e : Env) (c : Opd) (b : Bool) : Env :=
  match c with
  | .t n=>(n,.bool b)::e
  | .c _=>e
def leV1 (m : Nat) (x y : SV) : Prop :=
  match y with
  | .any=>True
  | .osl k wd i n => match x with
    | .nils=>m <= k /\ i = 0 /\ n = 0
    | _=>x = .osl k wd i n
  | .slc wd xs => match x with
    | .nils=>xs = []
    | _=>x = .slc wd xs
  | y=>x = y
def leL1 (m : Nat) : List SV -> List SV -> Prop
  | [],[]=>True
  | x::xs,y::ys=>leV1 m x y /\ leL1 m xs ys
  | _,_=>False
def hasNil : List SV -> Bool
  | []=>false
  | .nils::_=>true
  | _::t=>hasNil t
def leV2 (m : Nat) (x y : SV) : Prop :=
  match y with
  | .agg ys => match x with
    | .agg xs => match hasNil xs with
      | true=>leL1 m xs ys
      | false=>x = y
    | _=>x = y
  | y=>leV1 m x y
def leL2 (m : Nat) : List SV -> List SV -> Prop
  | [],[]=>True
  | x::xs,y::ys=>leV2 m x y /\ leL2 m xs ys
  | _,_=>False
def hasNil2 : List SV → Bool
  | []=>false
  | .nils::_=>true
  | .agg fs :: t => match hasNil fs with
    | true=>true
    | false=>hasNil2 t
  | _::t=>hasNil2 t
def leV (m : Nat) (x y : SV) : Prop :=
  match y with
  | .tup ys => match x with
    | .tup xs => match hasNil2 xs with
      | true=>leL2 m xs ys
      | false=>x = y
    | _=>x = y
  | y=>leV2 m x y
def leE (m : Nat) (e : Env) : Env -> Prop
  | []=>True
  | (t,y)::e'=>leV m (look e t) y /\ leE m e e'
def leL (m : Nat) : List SV -> List SV -> Prop
  | [],[]=>True
  | x::xs,y::ys=>leV m x y /\ leL m xs ys
  | _,_=>False
def leB (m : Nat) (x y : Blk) : Prop :=
  match y with
  | .dead=>True
  | .shut _ _=>False
  | .vars ys => match x with
    | .vars xs=>leL m xs ys
    | _=>False
  | .arr wd ys=>x = .arr wd ys
def leH (m : Nat) : List Blk -> List Blk -> Prop
  | [],[]=>True
  | x::xs,y::ys=>leB m x y /\ leH m xs ys
  | [],.arr _ xs::ys=>xs = [] /\ leH m [] ys
  | _,_=>False
def leHd (D : Prop) (m : Nat) : List Blk -> List Blk -> Prop
  | [],[]=>True
  | x::xs,y::ys=>leB m x y /\ leHd D m xs ys
  | [],.arr _ xs::ys=>xs = [] /\ leHd D m [] ys
  | _::_,[]=>D
  | _,_=>False
def SV.bnd (n : Nat) : SV -> Bool
  | .ptr k _ _ _=>decide (k < n)
  | .osl k _ _ _=>decide (k < n)
  | .agg fs | .tup fs | .fn _ fs=>bndL n fs
  | _=>true
where bndL (n : Nat) : List SV -> Bool
  | []=>true
  | f::fs=>f.bnd n && bndL n fs
def bndE (n : Nat) : Env -> Bool
  | []=>true
  | (_,v)::e=>v.bnd n && bndE n e
def bndH (n : Nat) : List Blk -> Bool
  | []=>true
  | .vars cs::H=>SV.bnd.bndL n cs && bndH n H
  | _::H=>bndH n H
def dropD (n0 : Nat) (e : Env) (H : List Blk) : Prop:=n0 <= H.length /\ bndE H.length e = true /\ bndH H.length H = true
def LoopP (e : Env) (H : List Blk) (g : Option Nat) (K : Ex → Env → List Blk → Option Nat → Prop) (body : Env → List Blk → Option Nat → (Ex → Env → List Blk → Option Nat → Prop) → Prop) : Prop :=
  ∃ (α : Type) (ok : α → Prop) (S : α → Env) (SH : α → List Blk) (Sg : α → Option Nat) (μ : α → Nat), (∃ x, ok x ∧ leE H.length e (S x) ∧ leH H.length H (SH x) ∧ g = Sg x) ∧
    ∀ x, ok x → body (S x) (SH x) (Sg x) fun ex e' H' g' => match ex with
      | .normal=>∃ y,ok y /\ μ y < μ x /\ leE H'.length e' (S y) /\ leHd (dropD H.length (S y) (SH y)) H'.length H' (SH y) /\ g' = Sg y
      | ex=>K ex e' H' g'
def renV (sel : List Nat) : SV -> SV
  | .ptr k wd i j=>.ptr (sel.getD k 0) wd i j
  | .osl k wd i n=>.osl (sel.getD k 0) wd i n
  | x=>x
def okCap (m : Nat) : SV -> Bool
  | .ptr k ..=>decide (k < m)
  | .osl k ..=>decide (k < m)
  | x=>x.pure
def okBlk : Blk -> Bool
  | .vars cs=>SV.pure.pureL cs
  | _=>true
def bindE : List Nat -> List SV -> Env -> Env
  | p::ps,x::xs,e=>bindE ps xs ((p,x)::e)
  | _,_,e=>e
def noY : Yv:={ out:=false,l:=0,xs:=[] }
def RngP (P : Program) (M : Nat) (ks : List Nat) (y : Yv) (f : SV) (ps : List Nat) (e : Env) (H : List Blk) (g : Option Nat) (K : Ex → Env → List Blk → Option Nat → Prop)
    (assign body : Nat -> List Nat -> Env -> List Blk -> (Ex -> Env -> List Blk -> Option Nat -> Prop) -> Prop) : Prop :=
  match fnsOf f with
  | some (gf, [], caps) => y.out = true ∧ ∃ (sel kl : List Nat) (caps' : List SV) (Hc : List Blk) (xs : List (List SV)) (SH : Nat → List Blk) (ok : Nat → Prop),
      IT P gf caps' Hc xs /\ caps'.map (renV sel) = caps /\ caps'.all (okCap sel.length) = true /\ sel.map (fun k=>H[k]?) = Hc.map some /\ Hc.all okBlk = true /\ sel.Nodup /\ (∀ k,k ∈ sel \/ k ∈ kl -> M <= k \/ k ∈ ks) /\
      leH H.length (deadHs sel H) (SH 0) /\ ok 0 /\
      (∀ (i : Nat) (x : List SV), xs[i]? = some x → ok i → x.length = ps.length ∧
        assign H.length kl (bindE ps x (killEs kl (killEs sel e))) (SH i) fun ex e' H' _=>match ex with
          | .normal => body H.length kl e' H' fun ex _ H'' _ => match ex with
            | .normal=>ok (i + 1) /\ leHd (H.length <= (SH (i + 1)).length /\ bndH (SH (i + 1)).length (SH (i + 1)) = true) H''.length H'' (SH (i + 1))
            | ex=>K ex (killEs kl (killEs sel e)) H'' g
          | _=>False) /\
      (ok xs.length -> K .normal (killEs kl (killEs sel e)) (SH xs.length) g)
  | _=>False
/-! ### Late operations -/
def leR : List Blk -> List Blk -> Prop
  | _,[]=>True
  | x::xs,y::ys=>leB 0 x y /\ leR xs ys
  | [],_::_=>False
def lvc (P : Program) : List Ins → Env → List Blk → Prop
  | [],_,_=>True
  | i :: is, e, H => (match i.dst with
    | some t=>pop P i.op e H fun sv=>look e t = sv
    | none=>False) /\ lvc P is e H
def leRm (op : IOp) (H Hr : List Blk) (p : Prop) : Prop :=
  match op.moves with
  | true=>leR H Hr /\ p
  | false=>p
abbrev MT:=Env -> List Blk -> List Blk -> (Env -> List Blk -> Prop) -> Prop
def mvcN : MT:=fun e H _ K=>K e H
def maskE : List Ins → Env → Env
  | [],e=>e
  | i :: is, e => match i.dst with
    | some t=>(t,.any)::maskE is e
    | none=>maskE is e
def afterA (lt : List Ins) (op : IOp) (e : Env) : Env :=
  match op with
  | .ap ..=>maskE lt e
  | _=>e
def mvcC (P : Program) (ks : List Nat) (lt : List Ins) (i : Ins) (_ : List Ins) (ih : MT) : MT:=fun e H Hr K=>xop P H.length ks i.op e H fun sv e H=>fc sv fun sv=>fhi i.op H fun H=>leRm i.op H Hr (ih (afterA lt i.op (setE e i.dst sv)) H Hr K)
def mvc (P : Program) (ks : List Nat) (lt : List Ins) (ops : List Ins) : MT:=@List.rec Ins (fun _=>MT) mvcN (mvcC P ks lt) ops
theorem mvc_nil_eq {P : Program} {ks : List Nat} {lt : List Ins} {e : Env} {H Hr : List Blk} {K : Env -> List Blk -> Prop} : mvc P ks lt [] e H Hr K = K e H:=rfl
theorem mvc_cons_eq {P : Program} {ks : List Nat} {lt : List Ins} {i : Ins} {is : List Ins} {e : Env} {H Hr : List Blk} {K : Env -> List Blk -> Prop} : mvc P ks lt (i::is) e H Hr K = xop P H.length ks i.op e H fun sv e H=>fc sv fun sv=>fhi i.op H fun H=>leRm i.op H Hr (mvc P ks lt is (afterA lt i.op (setE e i.dst sv)) H Hr K):=rfl
def restE : List Ins → Env → Env → Env
  | [],_,e2=>e2
  | i :: is, e, e2 => match i.dst with
    | some t=>(t,look e t)::restE is e e2
    | none=>restE is e e2
def midK (P : Program) (M : Nat) (ks : List Nat) (lt mid : List Ins) (b : Bool) (e : Env) (H : List Blk) (K : Env -> List Blk -> Prop) : Prop :=
  match b with
  | true=>∃ Hr,leR H Hr /\ lvc P lt e Hr /\ mvc P [] lt mid (maskE lt e) H Hr fun e2 H2=>K (restE lt e e2) H2
  | false=>∃ Hr js,(∀ j ∈ js,M <= j \/ j ∈ ks) /\ leR H Hr /\ lvc P lt (killEs js e) Hr /\ mvc P js lt mid (maskE lt e) H Hr fun e2 H2=>K (restE lt (killEs js e) e2) H2
abbrev CT:=Nat -> List Nat -> Yv -> Env -> List Blk -> Option Nat -> (Ex -> Env -> List Blk -> Option Nat -> Prop) -> Prop
def cvcSkip : CT:=fun _ _ _ e H g K=>K .normal e H g
def cvcReg (P : Program) (ops : List Ins) : CT:=fun M ks y e H g K=>rvc P M ks y ops e H g (K .normal)
def cvcDraw (P : Program) (hd tl : List Ins) : CT:=fun M ks y e H g K=>dvc P H.length hd e H [] fun e H Q=>endK Q e H fun e H=>rvc P M ks y tl e H g (K .normal)
def cvcDrawL (P : Program) (hd lt mid tl : List Ins) : CT:=fun M ks y e H g K=>dvc P H.length hd e H [] fun e H Q=>endK Q e H fun e H=>midK P M ks lt mid (mid.all fun x=>x.op.plain) e H fun e2 H2=>rvc P M ks y tl e2 H2 g (K .normal)
def cvcSeq (_ _ : IR) (a b : CT) : CT := fun M ks y e H g K => a M ks y e H g fun ex e H g => match ex with
    | .normal=>b M ks y e H g K
    | ex=>K ex e H g
def cvcCond (c : Opd) (_ _ : IR) (a b : CT) : CT := fun M ks y e H g K => match ev e c with
    | .bool t=>Br t (a M ks y (setB e c true) H g K) (b M ks y (setB e c false) H g K)
    | .anyb=>a M ks y (setB e c true) H g K /\ b M ks y (setB e c false) H g K
    | _=>False
def cvcBlock (id : Nat) (_ : IR) (a : CT) : CT := fun M ks y e H g K => a M ks y e H g fun ex e H g => match ex with
    | .exit i=>if i = id then K .normal e H g else K (.exit i) e H g
    | ex=>K ex e H g
def cvcLoop (_ : IR) (a : CT) : CT:=fun M ks y e H g K=>LoopP e H g K fun e H g K=>a M ks y e H g K
def cvcExit (id : Nat) : CT:=fun _ _ _ e H g K=>K (.exit id) e H g
def cvcRet : CT:=fun _ _ _ e H g K=>K .ret e H g
def cvcRng (P : Program) (f : Opd) (ps : List Nat) (_ _ : IR) (a b : CT) : CT:=fun M ks y e H g K=>RngP P M ks y (ev e f) ps e H g K (fun M ks e H K=>a M ks noY e H none K) (fun M ks e H K=>b M ks noY e H none K)
def cvcR (P : Program) (ir : IR) : CT:=@IR.rec (fun _=>CT) cvcSkip (cvcReg P) (cvcDraw P) (cvcDrawL P) cvcSeq cvcCond cvcBlock cvcLoop cvcExit cvcRet (cvcRng P) ir
def cvc (P : Program) (M : Nat) (ks : List Nat) (y : Yv) (ir : IR) (e : Env) (H : List Blk) (g : Option Nat) (K : Ex -> Env -> List Blk -> Option Nat -> Prop) : Prop:=cvcR P ir M ks y e H g K
section
variable {P : Program} {M : Nat} {ks : List Nat} {y : Yv} {e : Env} {H : List Blk} {g : Option Nat} {K : Ex -> Env -> List Blk -> Option Nat -> Prop}
theorem cvc_cond_eq {c : Opd} {a b : IR} : cvc P M ks y (.cond c a b) e H g K = (match ev e c with
    | .bool t=>Br t (cvc P M ks y a (setB e c true) H g K) (cvc P M ks y b (setB e c false) H g K)
    | .anyb=>cvc P M ks y a (setB e c true) H g K /\ cvc P M ks y b (setB e c false) H g K
    | _=>False):=rfl
theorem cvc_rng_eq {f : Opd} {ps : List Nat} {a b : IR} : cvc P M ks y (.rng f ps a b) e H g K = RngP P M ks y (ev e f) ps e H g K (fun M ks e H K=>cvc P M ks noY a e H none K) (fun M ks e H K=>cvc P M ks noY b e H none K):=rfl
end
end
section
open Go.RowKit
abbrev Fr (r : Option Nat) : Fence:={ Fence.wide with round:=r }
section
variable {P : Program} {w0 : World} {A0 : Nat -> Prop} {β0 : List (Option Nat)} {M : Nat} {ks : List Nat} {w : World} {A : Nat -> Prop} {β : List (Option Nat)} {H : List Blk}
theorem Cur.start (hW : WRel w A β H) (hA : ∀ b,A b -> b < w.heap.size) : Cur w A β M ks w A β H :=
  ⟨hW,hA,Frm.refl _ _,fun _ _=>Iff.rfl,fun _ _ h _=>List.mem_of_getElem? h,fun _ _ _=>rfl,Nat.le_refl _⟩
def Marks (w0 w : World) (A : Nat -> Prop) (β : List (Option Nat)) (ds : List Deferred) : Prop :=
  ∃ rs : List Nat,rs.Nodup /\ ds = rs.map (fun r=>{ target:=.collected r,args:=#[] }) /\ ∀ r ∈ rs,w.heap[r]? = some (.deferred (some [])) /\ some r ∉ β /\ A r /\ w0.heap.size <= r
theorem Marks.step {w2 : World} {A2 : Nat -> Prop} {β2 : List (Option Nat)} {H2 : List Blk} {ds : List Deferred} (h : Marks w0 w A β ds) (k : Cur w A β M ks w2 A2 β2 H2) : Marks w0 w2 A2 β2 ds:=by
  obtain ⟨rs,hn,hd,hr⟩:=h
  refine ⟨rs,hn,hd,fun r hm=>⟨?_,fun hin=>?_,(k.agree r (heap_lt (hr r hm).1)).2 (hr r hm).2.2.1,(hr r hm).2.2.2⟩⟩
  . rw [k.frm.keep r (heap_lt (hr r hm).1) (hr r hm).2.1]; exact (hr r hm).1
  . obtain ⟨j,hj,he⟩:=List.getElem_of_mem hin
    exact (hr r hm).2.1 (k.fresh j r (by simp [hj,he]) (heap_lt (hr r hm).1))
structure FrmB (B : Nat -> Prop) (w w' : World) : Prop where
  os : w'.os = w.os
  tape : w'.tape = w.tape
  output : w'.output = w.output
  drn : w.drawn <= w'.drawn
  size : w.heap.size <= w'.heap.size
  keep : ∀ b,b < w.heap.size -> ¬ B b -> w'.heap[b]? = w.heap[b]?
  shp : ∀ (b : Nat) (cs : Array Value) (T : TypeId) (fr : Nat × Nat),w.heap[b]? = some (.cells cs T fr) -> ∃ (cs' : Array Value) (fr' : Nat × Nat),w'.heap[b]? = some (.cells cs' T fr') /\ cs'.size = cs.size
theorem FrmB.refl (B : Nat -> Prop) (w : World) : FrmB B w w:=⟨rfl,rfl,rfl,Nat.le_refl _,Nat.le_refl _,fun _ _ _=>rfl,fun _ cs _ fr h=>⟨cs,fr,h,rfl⟩⟩
theorem FrmB.step {B C : Nat -> Prop} {w0 w w' : World} (h : FrmB B w0 w) (k : FrmB C w w') (hf : ∀ b,b < w0.heap.size -> C b -> B b) : FrmB B w0 w' :=
  ⟨k.os.trans h.os,k.tape.trans h.tape,k.output.trans h.output,Nat.le_trans h.drn k.drn,Nat.le_trans h.size k.size,fun b hb hn=>(k.keep b (Nat.lt_of_lt_of_le hb h.size) fun hm=>hn (hf b hb hm)).trans (h.keep b hb hn),fun b cs T fr hc=>by
    obtain ⟨cs1,fr1,h1,e1⟩:=h.shp b cs T fr hc
    obtain ⟨cs2,fr2,h2,e2⟩:=k.shp b cs1 T fr1 h1
    exact ⟨cs2,fr2,h2,e2.trans e1⟩⟩
theorem Frm.b {β : List (Option Nat)} {w w' : World} (h : Frm β w w') : FrmB (fun b=>some b ∈ β) w w':=⟨h.os,h.tape,h.output,h.drn,h.size,h.keep,h.shp⟩
theorem FrmB.frm {β : List (Option Nat)} {w w' : World} (h : FrmB (fun b=>some b ∈ β) w w') : Frm β w w':=⟨h.os,h.tape,h.output,h.drn,h.size,h.keep,h.shp⟩
structure CurX (B0 : Nat -> Prop) (w0 : World) (A0 : Nat -> Prop) (β0 : List (Option Nat)) (M : Nat) (ks : List Nat) (w : World) (A : Nat -> Prop) (β : List (Option Nat)) (H : List Blk) : Prop where
  rel : WRel w A β H
  fin : ∀ b,A b -> b < w.heap.size
  frm : FrmB B0 w0 w
  agree : ∀ b,b < w0.heap.size -> (A b ↔ A0 b)
  fresh : ∀ (k b : Nat),β[k]? = some (some b) -> b < w0.heap.size -> some b ∈ β0
  same : ∀ k,k < β0.length -> ¬ (M <= k \/ k ∈ ks) -> β[k]? = β0[k]?
  more : β0.length <= β.length
  sub : ∀ b,some b ∈ β0 -> B0 b
theorem Cur.x (h : Cur w0 A0 β0 M ks w A β H) : CurX (fun b=>some b ∈ β0) w0 A0 β0 M ks w A β H:=⟨h.rel,h.fin,h.frm.b,h.agree,h.fresh,h.same,h.more,fun _ h=>h⟩
theorem CurX.cur (h : CurX (fun b=>some b ∈ β0) w0 A0 β0 M ks w A β H) : Cur w0 A0 β0 M ks w A β H:=⟨h.rel,h.fin,h.frm.frm,h.agree,h.fresh,h.same,h.more⟩
theorem CurX.again {B0 : Nat -> Prop} (h : CurX B0 w0 A0 β0 M ks w A β H) : Cur w A β M ks w A β H:=Cur.start h.rel h.fin
theorem CurX.trans {B0 : Nat -> Prop} {w2 : World} {A2 : Nat -> Prop} {β2 : List (Option Nat)} {H2 : List Blk} (h : CurX B0 w0 A0 β0 M ks w A β H) (k : Cur w A β M ks w2 A2 β2 H2) : CurX B0 w0 A0 β0 M ks w2 A2 β2 H2:=by
  refine ⟨k.rel,k.fin,h.frm.step k.frm.b fun b hb hm=>?_,fun b hb=>(k.agree b (Nat.lt_of_lt_of_le hb h.frm.size)).trans (h.agree b hb),fun i b hi hb=>?_,fun i hi hn=>?_,Nat.le_trans h.more k.more,h.sub⟩
  . obtain ⟨j,hj,he⟩:=List.getElem_of_mem hm
    exact h.sub b (h.fresh j b (by simp [hj,he]) hb)
  . obtain ⟨j,hj,he⟩:=List.getElem_of_mem (k.fresh i b hi (Nat.lt_of_lt_of_le hb h.frm.size))
    exact h.fresh j b (by simp [hj,he]) hb
  . rw [k.same i (Nat.lt_of_lt_of_le hi h.more) hn]; exact h.same i hi hn
structure Ysem where
  B0 : Nat -> Prop
  X : Option Nat -> World -> (Nat -> Prop) -> List (Option Nat) -> Prop
structure OthStep (A0 : Nat -> Prop) (β : List (Option Nat)) (A : Nat -> Prop) (w : World) (A' : Nat -> Prop) (w' : World) : Prop where
  stp : Stp A w w'
  own : ∀ b,b < w.heap.size -> (A0 b \/ some b ∈ β) -> w'.heap[b]? = w.heap[b]?
  agree : ∀ b,b < w.heap.size -> (A' b ↔ A b)
  fin : ∀ b,A' b -> b < w'.heap.size
structure Yok (P : Program) (A0 : Nat -> Prop) (β0 : List (Option Nat)) (M : Nat) (ks : List Nat) (y : Yv) (Y : Ysem) : Prop where
  stab : ∀ (g : Option Nat) (w : World) (A : Nat -> Prop) (β : List (Option Nat)) (w2 : World) (A2 : Nat -> Prop) (β2 : List (Option Nat)) (H2 : List Blk),Y.X g w A β -> Cur w A β M ks w2 A2 β2 H2 -> Y.X g w2 A2 β2
  names : ∀ (g : Option Nat) (w : World) (A : Nat -> Prop) (β β2 : List (Option Nat)),(∀ b,A b -> b < w.heap.size) -> (∀ b,some b ∈ β2 -> some b ∈ β /\ A b) -> (∀ k,k < β0.length -> β2[k]? = β[k]?) -> Y.X g w A β -> Y.X g w A β2
  wide : y.out = false -> y.xs ≠ [] -> ∀ b,A0 b -> Y.B0 b
  yld : ∀ (i : Nat) (x : List SV) (us : List Value) (w : World) (A : Nat → Prop) (β : List (Option Nat)), y.xs[i]? = some x → Y.X (some i) w A β → (∀ b, A b → b < w.heap.size) → (∀ b, some b ∈ β → A b) → Reps w A [] x us →
    ∃ (fn : FuncId) (tmps : Array Value) (assign body : Code), (Instr.yield y.l us.toArray).run P w = .ok (.round y.l fn tmps assign body) w ∧
      RoundIn Fence.wide 0 P y.l fn tmps assign body w fun e W'=>∃ (b : Bool) (A' : Nat -> Prop),e = .returned (.bool b) /\ Y.X (if b then some (i + 1) else none) W' A' β /\ RoundStep (fun b=>some b ∈ β) A w A' W'
  oth : ∀ (o : Oper) (op : IOp) (e : Env) (H : List Blk) (T : Option Nat -> (SV -> Option Nat -> Prop) -> Prop),cop P o = some op -> y.oth op e H = some T -> ∀ (g : Option Nat) (R : SV -> Option Nat -> Prop),T g R -> ∀ (w : World) (A : Nat -> Prop) (β : List (Option Nat)) (a : Act),Y.X g w A β -> (∀ b,A b -> b < w.heap.size) -> WRel w A β H -> EnvRel w A β e a.tmps ->
    rel P o a w fun v w'=>∃ (sv : SV) (g' : Option Nat) (A' : Nat -> Prop),R sv g' /\ Y.X g' w' A' β /\ OthStep A0 β A w A' w' /\ Rep w' A' β sv v
  othH : ∀ (o : Oper) (op : IOp) (e : Env) (H : List Blk) (T : Option Nat -> (SV -> Env -> List Blk -> Option Nat -> Prop) -> Prop),cop P o = some op -> y.othH M ks op e H = some T -> ∀ (g : Option Nat) (R : SV -> Env -> List Blk -> Option Nat -> Prop),T g R -> ∀ (w0 w : World) (A : Nat -> Prop) (β : List (Option Nat)) (a : Act),CurX Y.B0 w0 A0 β0 M ks w A β H -> Y.X g w A β -> EnvRel w A β e a.tmps ->
    rel P o a w fun v w'=>∃ (sv : SV) (e2 : Env) (H2 : List Blk) (g' : Option Nat) (A' : Nat -> Prop) (β' : List (Option Nat)),R sv e2 H2 g' /\ Y.X g' w' A' β' /\ CurX Y.B0 w0 A0 β0 M ks w' A' β' H2 /\ EnvRel w' A' β' e2 a.tmps /\ Rep w' A' β' sv v
structure Sta (w0 : World) (A0 : Nat -> Prop) (β0 : List (Option Nat)) (M : Nat) (ks : List Nat) (N : Nat) (y : Yv) (Y : Ysem) (g : Option Nat) (e : Env) (H : List Blk) (a : Act) (w : World) (A : Nat -> Prop) (β : List (Option Nat)) : Prop where
  cur : CurX Y.B0 w0 A0 β0 M ks w A β H
  env : EnvRel w A β e a.tmps
  size : a.tmps.size = N
  marks : Marks w0 w A β a.defers
  nodef : y.out = false -> a.defers = []
  inv : Y.X g w A β
theorem wpIn_round {n : Nat} {r : Option Nat} {o : Oper} {a : Act} {w : World} {K : Act -> World -> Prop} {Q : Exit -> Act -> World -> Prop} (hd : ∀ c,o.op ≠ .defer c) (h : o.wpIn Fence.wide n P a w K Q) : o.wpIn (Fr r) n P a w K Q:=by
  refine ⟨fun _ _=>trivial,?_⟩
  have h2:=h.2
  rw [Oper.semAt_eq _ _ _ hd] at h2 ⊢
  generalize (execOp a.eval o).run P w = x at *
  exact h2
theorem cop_defer {o : Oper} {i : IOp} (h : cop P o = some i) : ∀ c,o.op ≠ .defer c:=fun c hc=>by simp [cop,hc] at h
theorem cop_call {o : Oper} {f : Opd} {args : List Opd} (h : cop P o = some (.call f args)) : ∃ c f',o.op = .call c /\ c.callee = .value f' /\ f = cOpd f' /\ args = c.args.toList.map cOpd:=by
  cases hop : o.op with
  | call c =>
    simp only [cop,hop] at h
    split at h
    . rename_i f' hf'
      cases h
      exact ⟨c,f',rfl,hf',rfl,rfl⟩
    . cases h
    . split at h <;> (try split at h) <;> (try split at h) <;> (try split at h) <;> cases h
  | _ =>
    simp only [cop,hop] at h
    repeat' split at h
    all_goals first | (cases h; done) | (obtain ⟨_,_,h⟩:=Option.map_eq_some_iff.1 h; cases h; done) | (obtain ⟨_,_,h⟩:=Option.bind_eq_some_iff.1 h; split at h <;> cases h; done) | (split at h <;> cases h; done) | (exfalso; rename_i heq _ _ _; cases heq; done) | skip
theorem cIns_spec {ops : Array Oper} {N : Nat} {o : Oper} {i : Ins} (h : cIns P ops N o = some i) : cop P o = some i.op /\ i.dst = o.dst /\ (∀ d,o.dst = some d -> d < N) /\
    ((o.guard = none /\ i.guard = none) \/ ∃ j want t,o.guard = some (j,want) /\ (ops[j]?).bind (·.dst) = some t /\ t < N /\ i.guard = some (t,want)):=by
  unfold cIns at h
  split at h
  . rename_i op g hop hg
    split at h
    . rename_i hok
      cases h
      refine ⟨hop,rfl,fun d hd=>by simpa [hd] using hok,?_⟩
      cases hgd : o.guard with
      | none=>simp [hgd,guardOf] at hg; exact .inl ⟨rfl,hg.symm⟩
      | some p =>
        obtain ⟨j,want⟩:=p
        simp only [hgd,guardOf] at hg
        split at hg
        . rename_i t ht
          split at hg
          . rename_i hlt
            cases hg
            exact .inr ⟨j,want,t,rfl,ht,hlt,rfl⟩
          . cases hg
        . cases hg
    . cases h
  . cases h
theorem guard_spec {ops : Array Oper} {N : Nat} {o : Oper} {i : Ins} (h : cIns P ops N o = some i) {e : Env} {run skip : Env → Prop} (hg : guardK e i.guard run skip) :
    (∃ e',run e' /\ (∀ t,look e' t = look e t) /\ ∀ (w : World) (A : Nat -> Prop) (β : List (Option Nat)) (tmps : Array Value),tmps.size = N -> (∀ t,i.guard.map (·.1) = some t -> Rep w A β (look e t) (tmps.getD t undef)) -> Region.wanted o (yielded ops tmps) = true) \/
    (∃ e',skip e' /\ (∀ t,look e' t = look e t) /\ i.guard.isSome = true /\ ∀ (w : World) (A : Nat -> Prop) (β : List (Option Nat)) (tmps : Array Value),tmps.size = N -> (∀ t,i.guard.map (·.1) = some t -> Rep w A β (look e t) (tmps.getD t undef)) -> Region.wanted o (yielded ops tmps) = false):=by
  obtain ⟨_,_,_,hgd⟩:=cIns_spec h
  rcases hgd with ⟨h1,h2⟩ | ⟨j,want,t,h1,h2,h3,h4⟩
  . simp only [h2,guardK] at hg
    exact .inl ⟨e,hg,fun _=>rfl,fun w A β tmps _ _=>by simp [Region.wanted,h1]⟩
  . simp only [h4,guardK] at hg
    have same : ∀ (b : Bool),look e t = .bool b -> ∀ t',look ((t,.bool b)::e) t' = look e t':=by
      intro b hb t'
      simp only [look]
      split
      . rename_i ht; subst ht; exact hb.symm
      . rfl
    -- the slot's truth
    have isb : ∀ (b : Bool),look e t = .bool b -> ∀ (w : World) (A : Nat -> Prop) (β : List (Option Nat)) (tmps : Array Value),tmps.size = N -> (∀ t',i.guard.map (·.1) = some t' -> Rep w A β (look e t') (tmps.getD t' undef)) ->
        Region.wanted o (yielded ops tmps) = (b == want):=by
      intro b hb w A β tmps hsz hr
      have h5:=rep_bool (hb ▸ hr t (by simp [h4]))
      have : tmps[t]? = some (.bool b):=by
        have ht : t < tmps.size:=by rw [hsz]; exact h3
        simp [Array.getD,ht] at h5
        simp [ht,h5]
      simp only [Region.wanted,h1,yielded,h2,Option.bind_some,this]
      cases b <;> cases want <;> rfl
    split at hg
    . rename_i b hb
      have hs:=same b hb
      have hb':=isb b hb
      cases want with
      | true =>
        simp only at hg
        cases b with
        | true=>exact .inl ⟨_,hg.t rfl,hs,fun w A β tmps hsz hr=>by simpa using hb' w A β tmps hsz hr⟩
        | false=>exact .inr ⟨_,hg.f rfl,hs,by simp [h4],fun w A β tmps hsz hr=>by simpa using hb' w A β tmps hsz hr⟩
      | false =>
        simp only at hg
        cases b with
        | true=>exact .inr ⟨_,hg.t rfl,hs,by simp [h4],fun w A β tmps hsz hr=>by simpa using hb' w A β tmps hsz hr⟩
        | false=>exact .inl ⟨_,hg.f rfl,hs,fun w A β tmps hsz hr=>by simpa using hb' w A β tmps hsz hr⟩
    . rename_i hb
      refine .inr ⟨e,hg,fun _=>rfl,by simp [h4],fun w A β tmps hsz hr=>?_⟩
      have h5:=hb ▸ hr t (by simp [h4])
      generalize hv : tmps.getD t undef = v at h5
      cases h5 with
      | tup _ _ vs hl _ =>
        have : tmps[t]? = some (.tuple vs.toArray):=by
          have ht : t < tmps.size:=by rw [hsz]; exact h3
          simp [Array.getD,ht] at hv
          simp [ht,hv]
        simp [Region.wanted,h1,yielded,h2,this]
    . exact hg.elim
theorem yldOf_spec {x : SV} {l : Nat} (h : yldOf x = some l) : x = .raw (.func (.yield l) #[] #[]):=by
  unfold yldOf at h
  split at h
  . rename_i l' a b
    split at h
    . rename_i ha hb
      cases h
      have e1 : a = #[]:=by rw [<- Array.toList_inj]; exact ha
      have e2 : b = #[]:=by rw [<- Array.toList_inj]; exact hb
      rw [e1,e2]
    . cases h
  . cases h
theorem roundIn_wide {r : Option Nat} {m l : Nat} {f : FuncId} {tmps : Array Value} {assign body : Code} {R : Ending -> World -> Prop} (h : RoundIn Fence.wide 0 P l f tmps assign body w R) : RoundIn (Fr r) m P l f tmps assign body w R :=
  ⟨trivial,fun c cs _=>h.2 c cs (room_wide _)⟩
theorem yld_wpIn {m : Nat} {r : Option Nat} {o : Oper} {f : Operand} {c : Call} {y : Yv} {Y : Ysem} {e : Env} {a : Act} {as : List SV} {i N : Nat} {K : Act -> World -> Prop} {Q : Exit -> Act -> World -> Prop} (hY : Yok P A0 β0 M ks y Y) (hop : o.op = .call c) (hf : c.callee = .value f)
    (hyl : yldOf (ev e (cOpd f)) = some y.l) (has : as = c.args.toList.map fun x=>ev e (cOpd x)) (hp : SV.pure.pureL as = true) (hout : y.out = false) (hx : y.xs[i]? = some as) (hS : Sta w0 A0 β0 M ks N y Y (some i) e H a w A β)
    (hK : ∀ (b : Bool) (w' : World) (A' : Nat -> Prop),Sta w0 A0 β0 M ks N y Y (if b then some (i + 1) else none) e H a w' A' β -> K (a.put o.dst (.bool b)) w') : o.wpIn (Fr r) m P a w K Q:=by
  have hfr : a.eval f = .func (.yield y.l) #[] #[]:=by
    have:=ev_rep (w:=w) (A:=A) (β:=β) (e:=e) (a:=a) f fun t _=>hS.env t
    rw [yldOf_spec hyl] at this
    generalize a.eval f = v at this
    cases this; rfl
  have hargs : Reps w A β as (c.args.toList.map a.eval):=by
    rw [has]
    have:=map_reps c.args.toList fun x _=>ev_rep (e:=e) (a:=a) x fun t _=>hS.env t
    rwa [List.map_map] at this
  have hall:=reps_purely hargs hp []
  obtain ⟨fn,tmps,assign,body,hrun,hround⟩:=hY.yld i as _ w A β hx hS.inv hS.cur.fin (fun b hb=>by
    obtain ⟨k,hk,he⟩:=List.getElem_of_mem hb
    exact (hS.cur.rel.own k b (by simp [hk,he])).1) hall
  refine ⟨fun _ _=>trivial,?_⟩
  rw [Oper.semAt_eq _ _ _ (by intro c' h; rw [hop] at h; cases h)]
  have hrun' : (execOp a.eval o).run P w = .ok (.round y.l fn tmps assign body) w:=by
    simp only [execOp,hop,resolve,hf,hfr,Deferred.ofValue,Sem.run_bind,Sem.run_pure,Result.andThen_ok,invoke]
    have : (#[] ++ c.args.map a.eval) = (c.args.toList.map a.eval).toArray:=by
      apply Array.ext'; simp
    rw [this]
    exact hrun
  rw [hrun',Oper.uponIn_round]
  refine ⟨fun h=>by simp [Fence.wide] at h,(roundIn_wide hround).mono ?_⟩
  rintro e' W' ⟨b,A',rfl,hX,hr⟩
  have hdef:=hS.nodef hout
  refine hK b W' A' ⟨⟨⟨hS.cur.rel.len,hS.cur.rel.inj,fun k c hk=>?_,fun k o' blk hk hbk=>(hS.cur.rel.blk k o' blk hk hbk).keep hr.stp (fun b hb h=>(hr.agree b hb).1 h) (fun _ _ h=>h) fun b he=>hr.bi b (he ▸ List.mem_of_getElem? hk)⟩,hr.fin,?_,fun b hb=>(hr.agree b (Nat.lt_of_lt_of_le hb hS.cur.frm.size)).trans (hS.cur.agree b hb),hS.cur.fresh,hS.cur.same,hS.cur.more,hS.cur.sub⟩,fun t=>(hS.env t).mono hr.stp fun b hb h=>(hr.agree b hb).1 h,hS.size,?_,hS.nodef,hX⟩
  . obtain ⟨h1,h2⟩:=hS.cur.rel.own k c hk
    exact ⟨(hr.agree c h2).2 h1,Nat.lt_of_lt_of_le h2 hr.stp.size⟩
  . exact hS.cur.frm.step (C:=A) ⟨hr.stp.os,hr.stp.tape,hr.stp.output,hr.stp.drn,hr.stp.size,hr.stp.keep,hr.stp.shp⟩ fun b hb ha=>hY.wide hout (fun h=>by rw [h] at hx; simp at hx) b ((hS.cur.agree b hb).1 ha)
  . rw [hdef]; exact ⟨[],List.nodup_nil,rfl,fun r h=>by simp at h⟩
theorem rvc_sound {m : Nat} {r : Option Nat} {ops : Array Oper} {N : Nat} {y : Yv} {Y : Ysem} (hY : Yok P A0 β0 M ks y Y) {Q : Exit -> Act -> World -> Prop} : ∀ (os : List Oper) (is : List Ins),os.mapM (cIns P ops N) = some is -> ∀ (e : Env) (H : List Blk) (g : Option Nat) (K : Env -> List Blk -> Option Nat -> Prop) (a : Act) (w : World) (A : Nat -> Prop) (β : List (Option Nat)),
    rvc P M ks y is e H g K -> Sta w0 A0 β0 M ks N y Y g e H a w A β -> (∀ e' H' g' a' w' A' β',K e' H' g' -> Sta w0 A0 β0 M ks N y Y g' e' H' a' w' A' β' -> Q .normal a' w') -> wpListIn (Fr r) m P ops Q os a w
  | [], is, hm, e, H, g, K, a, w, A, β, h, hS, hQ => by
    simp at hm; subst hm
    exact hQ e H g a w A β h hS
  | o :: os, is, hm, e, H, g, K, a, w, A, β, h, hS, hQ => by
    simp only [List.mapM_cons,Option.bind_eq_bind,Option.pure_def] at hm
    obtain ⟨i,hi,hm⟩:=Option.bind_eq_some_iff.1 hm
    obtain ⟨is',his,hm⟩:=Option.bind_eq_some_iff.1 hm
    cases hm
    obtain ⟨hcop,hdst,hdN,_⟩:=cIns_spec hi
    simp only [rvc_cons_eq,fc_eq,fhi_eq] at h
    have hput : ∀ (a : Act) (v : Value),(a.put o.dst v).tmps.size = a.tmps.size /\ (a.put o.dst v).defers = a.defers:=fun a v=>by cases o.dst <;> simp [Act.put]
    rcases guard_spec hi h with ⟨e',hrun,hlk,hw⟩ | ⟨e',hskip,hlk,_,hw⟩
    . have hwant:=hw w A β a.tmps hS.size fun t _=>hS.env t
      have hr : ∀ t,Rep w A β (look e' t) (a.tmps.getD t undef):=fun t=>by rw [hlk]; exact hS.env t
      unfold wpListIn
      rw [if_pos hwant]
      have henv : EnvRel w A β e' a.tmps:=fun t=>hr t
      unfold yop at hrun
      split at hrun
      · -- told apart
        rename_i T hT
        obtain ⟨hout,hT'⟩:=hrun
        have hrel:=hY.oth o _ _ _ _ hcop hT g _ hT' w A β a hS.inv hS.cur.fin hS.cur.rel henv
        refine wpIn_round (cop_defer hcop) (wpIn_of_rel hrel fun v w' hT=>?_)
        obtain ⟨sv,g',A',hK,hX,hst,hrep⟩:=hT
        have hdef:=hS.nodef hout
        have hnm : ∀ (k b : Nat),β[k]? = some (some b) -> some b ∈ β:=fun k b hk=>List.mem_of_getElem? hk
        refine rvc_sound hY os is' his _ _ g' K _ _ A' β hK ⟨⟨⟨hS.cur.rel.len,hS.cur.rel.inj,fun k c hk=>?_,fun k o' blk hk hbk=>(hS.cur.rel.blk k o' blk hk hbk).keep hst.stp (fun b hb h=>(hst.agree b hb).1 h) (fun _ _ h=>h) fun b he=>?_⟩,hst.fin,?_,fun b hb=>(hst.agree b (Nat.lt_of_lt_of_le hb hS.cur.frm.size)).trans (hS.cur.agree b hb),hS.cur.fresh,hS.cur.same,hS.cur.more,hS.cur.sub⟩,?_,by rw [(hput a v).1]; exact hS.size,?_,fun h=>by rw [(hput a v).2]; exact hS.nodef h,hX⟩ hQ
        . obtain ⟨h1,h2⟩:=hS.cur.rel.own k c hk
          exact ⟨(hst.agree c h2).2 h1,Nat.lt_of_lt_of_le h2 hst.stp.size⟩
        . exact hst.own b (hS.cur.rel.own k b (he ▸ hk)).2 (.inr (he ▸ List.mem_of_getElem? hk))
        . exact hS.cur.frm.step (C:=fun b=>A b /\ ¬ A0 b) ⟨hst.stp.os,hst.stp.tape,hst.stp.output,hst.stp.drn,hst.stp.size,fun b hb hn=>by
            by_cases ha : A b
            . exact hst.own b hb (.inl (Classical.byContradiction fun h=>hn ⟨ha,h⟩))
            . exact hst.stp.keep b hb ha,hst.stp.shp⟩ fun b hb ha=>absurd ((hS.cur.agree b hb).1 ha.1) ha.2
        . rw [hdst]
          exact EnvRel.put (fun t=>(henv t).mono hst.stp fun b hb h=>(hst.agree b hb).1 h) (fun t ht=>by rw [hS.size]; exact hdN t ht) hrep
        . rw [(hput a v).2,hdef]; exact ⟨[],List.nodup_nil,rfl,fun r h=>by simp at h⟩
      split at hrun
      · -- told apart, and it writes
        rename_i T hT
        obtain ⟨hout,hT'⟩:=hrun
        have hrel:=hY.othH o _ _ _ _ hcop hT g _ hT' w0 w A β a hS.cur hS.inv henv
        have hdef:=hS.nodef hout
        refine wpIn_round (cop_defer hcop) (wpIn_of_rel hrel fun v w' hT=>?_)
        obtain ⟨sv,e2,H2,g',A2,β2,hK,hX,hcur2,henv2,hrep⟩:=hT
        refine rvc_sound hY os is' his _ _ g' K _ _ A2 β2 hK ⟨hcur2,?_,by rw [(hput a v).1]; exact hS.size,by rw [(hput a v).2,hdef]; exact ⟨[],List.nodup_nil,rfl,fun r h=>by simp at h⟩,fun h=>by rw [(hput a v).2]; exact hS.nodef h,hX⟩ hQ
        rw [hdst]
        exact henv2.put (fun t ht=>by rw [hS.size]; exact hdN t ht) hrep
      split at hrun
      · -- yield
        rename_i l as hy
        obtain ⟨hout,rfl,hp,j,rfl,hx,hT,hF⟩:=hrun
        unfold isYld at hy
        split at hy
        . rename_i f args hiop
          split at hy
          . rename_i l' hl'
            cases hy
            obtain ⟨c,f',hop,hf',hfo,hargs⟩ : ∃ c f',o.op = .call c /\ c.callee = .value f' /\ f = cOpd f' /\ args = c.args.toList.map cOpd:=by
              rw [hiop] at hcop
              exact cop_call hcop
            subst hfo
            refine yld_wpIn (A0:=A0) hY hop hf' hl' (as:=args.map (ev e')) (by rw [hargs,List.map_map]; rfl) hp hout hx ⟨hS.cur,henv,hS.size,hS.marks,hS.nodef,hS.inv⟩ fun b w' A' hS'=>?_
            have fin : ∀ (gb : Option Nat),rvc P M ks y is' (setE e' i.dst (.bool b)) H gb K -> Sta w0 A0 β0 M ks N y Y gb e' H a w' A' β -> wpListIn (Fr r) m P ops Q os (a.put o.dst (.bool b)) w':=fun gb hk hS' =>
              rvc_sound hY os is' his _ _ gb K _ _ A' β hk ⟨hS'.cur,by rw [hdst]; exact hS'.env.put (fun t ht=>by rw [hS'.size]; exact hdN t ht) (.bool _ _),by rw [(hput a _).1]; exact hS'.size,by rw [(hput a _).2]; exact hS'.marks,fun h=>by rw [(hput a _).2]; exact hS'.nodef h,hS'.inv⟩ hQ
            cases b with
            | true=>exact fin _ hT hS'
            | false=>exact fin _ hF hS'
          . cases hy
        . cases hy
      . have hrel:=xop_rel (P:=P) (o:=o) (w0:=w) (A0:=A) (β0:=β) hcop hrun hS.cur.again henv
        refine wpIn_round (cop_defer hcop) (wpIn_of_rel hrel fun v w' hT=>?_)
        obtain ⟨sv,e2,H2,A2,β2,hK,hcur2,henv2,hrep⟩:=hT
        refine rvc_sound hY os is' his _ _ g K _ _ A2 β2 hK ⟨hS.cur.trans hcur2,?_,by rw [(hput a v).1]; exact hS.size,by rw [(hput a v).2]; exact hS.marks.step hcur2,fun h=>by rw [(hput a v).2]; exact hS.nodef h,hY.stab _ _ _ _ _ _ _ _ hS.inv hcur2⟩ hQ
        rw [hdst]
        exact henv2.put (fun t ht=>by rw [hS.size]; exact hdN t ht) hrep
    . have hwant:=hw w A β a.tmps hS.size fun t _=>hS.env t
      have hr : ∀ t,Rep w A β (look e' t) (a.tmps.getD t undef):=fun t=>by rw [hlk]; exact hS.env t
      unfold wpListIn
      rw [if_neg (by simp [hwant])]
      refine ⟨fun _ _=>trivial,rvc_sound hY os is' his _ _ g K _ _ A β hskip ⟨hS.cur,?_,by rw [(hput a undef).1]; exact hS.size,by rw [(hput a undef).2]; exact hS.marks,fun h=>by rw [(hput a undef).2]; exact hS.nodef h,hS.inv⟩ hQ⟩
      rw [hdst]
      exact EnvRel.put (fun t=>hr t) (fun t ht=>by rw [hS.size]; exact hdN t ht) (.tup _ [] [] rfl fun i f v h=>by simp at h)
theorem wpOps_of_list {F : Fence} {m : Nat} {ops : Array Oper} {Q : Exit -> Act -> World -> Prop} : ∀ (l : List Oper) (k : Nat) (a : Act) (w : World),(∀ j : Nat,j < l.length -> l[j]? = ops[k + j]?) -> wpListIn F m P ops Q l a w -> wpOpsIn F m P ops Q (List.range' k l.length) a w
  | [],_,_,_,_,h=>h
  | o :: l, k, a, w, hl, h => by
    have h0 : ops[k]? = some o:=by simpa using (hl 0 (by simp)).symm
    simp only [List.length_cons,List.range'_succ,wpOpsIn_cons]
    unfold wpOpIn
    simp only [h0]
    unfold wpListIn at h
    have hl' : ∀ j : Nat,j < l.length -> l[j]? = ops[k + 1 + j]?:=fun j hj=>by
      have:=hl (j + 1) (by simp; omega)
      simpa [Nat.add_assoc,Nat.add_comm 1 j] using this
    split
    . rename_i hw
      rw [if_pos hw] at h
      exact Oper.wpIn_mono (fun a w h=>wpOps_of_list l (k + 1) a w hl' h) h
    . rename_i hw
      rw [if_neg hw] at h
      exact ⟨h.1,wpOps_of_list l (k + 1) _ w hl' h.2⟩
end
end
end Go.Proofs.YtelbhbadkbcakaaGreat
