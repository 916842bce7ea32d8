/- A region that draws its order: one walk in the order of the text serves every order. The world bears a ghost beside it (whose blocks are whose). -/
import Derived.Test.YtefciekodhpefaaSc
namespace Go.Proofs.Ytefciekodhpefaa
open Go.RowKit

abbrev Fact (γ : Type) := Value → World × γ → Prop

/-- What is known of slot t behind the first j operations of the text. -/
def upd {γ : Type} (C : Tmp → Fact γ) (d : Option Tmp) (F : Fact γ) : Tmp → Fact γ := fun t => if d = some t then F else C t
def Cat {γ : Type} (ops : Array Oper) (F : Nat → Fact γ) (C0 : Tmp → Fact γ) : Nat → Tmp → Fact γ
  | 0 => C0
  | j + 1 => upd (Cat ops F C0 j) ((ops[j]?).bind (·.dst)) (F j)

def Stable {γ : Type} (R : World × γ → World × γ → Prop) (F : Fact γ) : Prop := ∀ v s s', R s s' → F v s → F v s'

section
variable {γ : Type} {P : Program} {ops : Array Oper} {R : World × γ → World × γ → Prop} {U : Nat → World × γ → Prop} {s0 : World × γ}

def Obl (P : Program) (ops : Array Oper) (R : World × γ → World × γ → Prop) (U : Nat → World × γ → Prop) (s0 : World × γ) (N : Nat) (D : List Deferred) (C : Tmp → Fact γ) (j : Nat) (o : Oper) (F : Fact γ) : Prop :=
  Stable R F ∧ ∀ (a : Act) (s : World × γ), R s0 s → U j s → a.defers = D → a.tmps.size = N → (∀ t ∈ o.looksAt ops, C t (a.tmps.getD t undef) s) →
    if Region.wanted o (yielded ops a.tmps) = true then rel P o a s.1 fun v w' => ∃ g', R s (w', g') ∧ F v (w', g') ∧ ∀ k, k ≠ j → U k s → U k (w', g') else F undef s

theorem wpIn_of_rel {n : Nat} {o : Oper} {a : Act} {w : World} {K : Value → World → Prop} {K' : Act → World → Prop} {Q : Exit → Act → World → Prop}
    (h : rel P o a w K) (hk : ∀ v w', K v w' → K' (a.put o.dst v) w') : o.wpIn Fence.wide n P a w K' Q := by
  refine ⟨fun _ _ => trivial, ?_⟩
  unfold rel at h
  rw [show Fence.wide.round = none from rfl, Oper.semAt_none]
  generalize (execOp a.eval o).run P w = r at *
  cases r with
  | ok x w' =>
    cases x <;> simp only [Oper.relUpon] at h <;> simp only [Oper.uponIn]
    case value u => exact hk _ _ h
    case skip => exact hk _ _ h
    case enter f args => exact ⟨fun h => by simp [Fence.wide] at h, callsIn_wide.2 (h.mono fun e w'' ⟨v, he, hv⟩ => by subst he; exact hk _ _ hv)⟩
  | halt x w' => simp only [Oper.relUpon] at h

theorem put_getD (a : Act) (d t : Tmp) (v : Value) : (a.put (some d) v).tmps.getD t undef = if d = t ∧ t < a.tmps.size then v else a.tmps.getD t undef := by
  simp only [Act.put, Array.getD_eq_getD_getElem?, Array.getElem?_setIfInBounds]
  by_cases h : d = t
  · subst h
    by_cases h' : d < a.tmps.size <;> simp [h']
  · simp [h]


section
variable {ops : Array Oper}
theorem eval_agree {a a' : Act} {o : Oper} (hs : ∀ cs b, o.op ≠ .select cs b) (h : ∀ t ∈ o.looksAt ops, a.tmps.getD t undef = a'.tmps.getD t undef) : execOp a.eval o = execOp a'.eval o :=
  execOp_congr o hs fun x hx => by
    cases x with
    | tmp t => exact h t (List.mem_append_left _ (List.mem_filterMap.2 ⟨.tmp t, by simpa using hx, rfl⟩))
    | _ => rfl

theorem wanted_agree {a a' : Act} {o : Oper} (hN : a.tmps.size = a'.tmps.size) (h : ∀ t ∈ o.looksAt ops, a.tmps.getD t undef = a'.tmps.getD t undef) :
    Region.wanted o (yielded ops a.tmps) = Region.wanted o (yielded ops a'.tmps) := by
  unfold Region.wanted
  cases hg : o.guard with
  | none => rfl
  | some gw =>
    obtain ⟨g, want⟩ := gw
    have hy : yielded ops a.tmps g = yielded ops a'.tmps g := by
      unfold yielded
      cases ht : (ops[g]?).bind (·.dst) with
      | none => rfl
      | some t =>
        have := h t (by simp [Oper.looksAt, hg, ht])
        simp only [Option.bind_some]
        by_cases hlt : t < a.tmps.size
        · have hlt' : t < a'.tmps.size := hN ▸ hlt
          simp [Array.getD, hlt, hlt'] at this
          simp [hlt, hlt', this]
        · have hlt' : ¬ t < a'.tmps.size := hN ▸ hlt
          simp [hlt, hlt']
    simp only [hy]

end
/-- The two Bools over the region. 'pairB': what is not apart goes in the order of the text. -/
def Region.waits (md : Region.Mode) (ops : Array Oper) (j i : Nat) : Bool :=
  match ops[j]? with
  | some oj => oj.after.any fun e => Region.binds md e && e.on == i
  | none => false
def Region.pairB (md : Region.Mode) (ops : Array Oper) : Bool :=
  (List.range ops.size).all fun j => (List.range j).all fun i => Region.waits md ops j i || match ops[i]?, ops[j]? with
    | some oi, some oj => oi.apart ops oj
    | _, _ => true
def Region.backB (md : Region.Mode) (ops : Array Oper) : Bool :=
  (List.range ops.size).all fun j => match ops[j]? with
    | some oj => oj.after.all fun e => !Region.binds md e || decide (e.on < j)
    | none => true
/-- The first n write unlike slots, all below N; what is looked at is below N, too. -/
def Region.dstB (ops : Array Oper) (n N : Nat) : Bool :=
  (List.range n).all fun j => match ops[j]? with
    | some oj => (match oj.dst with | some d => decide (d < N) | none => true) && (oj.looksAt ops).all (fun t => decide (t < N)) &&
        (List.range j).all fun i => match ops[i]? with
          | some oi => (match oi.dst, oj.dst with | some d, some d' => !(d == d') | _, _ => true)
          | none => true
    | none => true
def Region.relB (md : Region.Mode) (ops : Array Oper) (n N : Nat) : Bool :=
  Region.noSelect ops && Region.pairB md ops && Region.backB md ops && Region.dstB ops n N

def Region.relTailB (md : Region.Mode) (ops : Array Oper) (n N : Nat) : Bool :=
  Region.relB md ops n N && decide (n < ops.size) && Region.sinkB md ops n && Region.chainB md ops n && Region.seqB md ops (ops.size - n) n (Array.replicate n true ++ Array.replicate (ops.size - n) false)

theorem waits_spec {md : Region.Mode} {j i : Nat} (h : Region.waits md ops j i = true) : ∃ oj, ops[j]? = some oj ∧ ∃ e ∈ oj.after, Region.binds md e = true ∧ e.on = i := by
  unfold Region.waits at h
  split at h
  · rename_i oj hj
    obtain ⟨e, he, hb⟩ := Array.any_eq_true'.1 h
    simp only [Bool.and_eq_true, beq_iff_eq] at hb
    exact ⟨oj, hj, e, he, hb.1, hb.2⟩
  · cases h

theorem pair_spec {md : Region.Mode} (h : Region.pairB md ops = true) {i j : Nat} {oi oj : Oper} (hij : i < j) (hi : ops[i]? = some oi) (hj : ops[j]? = some oj) :
    (∃ e ∈ oj.after, Region.binds md e = true ∧ e.on = i) ∨ oi.apart ops oj = true := by
  have hjs : j < ops.size := (Array.getElem?_eq_some_iff.1 hj).1
  have h1 := List.all_eq_true.1 (List.all_eq_true.1 h j (List.mem_range.2 hjs)) i (List.mem_range.2 hij)
  simp only [hi, hj, Bool.or_eq_true] at h1
  rcases h1 with h1 | h1
  · obtain ⟨o', ho', e, he⟩ := waits_spec h1
    rw [hj] at ho'
    obtain rfl := Option.some.inj ho'
    exact .inl ⟨e, he⟩
  · exact .inr h1

theorem back_spec {md : Region.Mode} (h : Region.backB md ops = true) {j : Nat} {oj : Oper} (hj : ops[j]? = some oj) {e : Edge} (he : e ∈ oj.after) (hb : Region.binds md e = true) : e.on < j := by
  have hjs : j < ops.size := (Array.getElem?_eq_some_iff.1 hj).1
  have h1 := List.all_eq_true.1 h j (List.mem_range.2 hjs)
  simp only [hj] at h1
  have := Array.all_eq_true_iff_forall_mem.1 h1 e he
  simpa [hb] using this

theorem dst_spec {n N : Nat} (h : Region.dstB ops n N = true) {j : Nat} {oj : Oper} (hjn : j < n) (hj : ops[j]? = some oj) :
    (∀ d, oj.dst = some d → d < N) ∧ (∀ t ∈ oj.looksAt ops, t < N) ∧ ∀ i oi d, i < j → ops[i]? = some oi → oi.dst = some d → oj.dst ≠ some d := by
  have h1 := List.all_eq_true.1 h j (List.mem_range.2 hjn)
  simp only [hj, Bool.and_eq_true] at h1
  obtain ⟨⟨h1, h2⟩, h3⟩ := h1
  refine ⟨fun d hd => by simpa [hd] using h1, fun t ht => by simpa using List.all_eq_true.1 h2 t ht, fun i oi d hi hoi hd hd' => ?_⟩
  have := List.all_eq_true.1 h3 i (List.mem_range.2 hi)
  simp [hoi, hd, hd'] at this

/-- Slot t behind j operations. -/
theorem cat_cases (F : Nat → Fact γ) (C0 : Tmp → Fact γ) : ∀ j t, (∃ i oi, i < j ∧ ops[i]? = some oi ∧ oi.dst = some t ∧ Cat ops F C0 j t = F i ∧ ∀ k ok, i < k → k < j → ops[k]? = some ok → ok.dst ≠ some t) ∨
    ((∀ i oi, i < j → ops[i]? = some oi → oi.dst ≠ some t) ∧ Cat ops F C0 j t = C0 t)
  | 0, t => .inr ⟨fun i _ h => by omega, rfl⟩
  | j + 1, t => by
    by_cases hd : (ops[j]?).bind (·.dst) = some t
    · left
      cases ho : ops[j]? with
      | none => simp [ho] at hd
      | some oj =>
        simp only [ho, Option.bind_some] at hd
        exact ⟨j, oj, by omega, ho, hd, by simp [Cat, upd, ho, hd], fun k _ h1 h2 => by omega⟩
    · have he : Cat ops F C0 (j + 1) t = Cat ops F C0 j t := by simp [Cat, upd, hd]
      have hno : ∀ oj, ops[j]? = some oj → oj.dst ≠ some t := fun oj ho h => hd (by simp [ho, h])
      rcases cat_cases F C0 j t with ⟨i, oi, hi, hoi, hdt, hF, hlast⟩ | ⟨h1, h2⟩
      · refine .inl ⟨i, oi, by omega, hoi, hdt, he.trans hF, fun k ok h1 h2 hk => ?_⟩
        by_cases hkj : k = j
        · subst hkj; exact hno ok hk
        · exact hlast k ok h1 (by omega) hk
      · refine .inr ⟨fun i oi hi hoi => ?_, he.trans h2⟩
        by_cases hij : i = j
        · subst hij; exact hno oi hoi
        · exact h1 i oi (by omega) hoi


/-- What holds at whatever point of whatever order. -/
structure Inv (md : Region.Mode) (ops : Array Oper) (R : World × γ → World × γ → Prop) (U : Nat → World × γ → Prop) (s0 : World × γ) (F : Nat → Fact γ) (a0 : Act) (n N : Nat) (listed : Array Bool) (a : Act) (s : World × γ) : Prop where
  head : HeadInv md ops n listed
  step : R s0 s
  size : a.tmps.size = N
  defers : a.defers = a0.defers
  done : ∀ (i : Nat) (oi : Oper) (t : Tmp), i < n → ops[i]? = some oi → oi.dst = some t → listed.getD i false = true → F i (a.tmps.getD t undef) s
  old : ∀ (t : Tmp), (∀ (i : Nat) (oi : Oper), i < n → ops[i]? = some oi → oi.dst = some t → listed.getD i false = false) → a.tmps.getD t undef = a0.tmps.getD t undef
  todo : ∀ k, k < n → listed.getD k false = false → U k s

section
variable {md : Region.Mode} {F : Nat → Fact γ} {C0 : Tmp → Fact γ} {a0 : Act} {n N : Nat} (htr : ∀ a b c, R a b → R b c → R a c)
variable (hpair : Region.pairB md ops = true) (hdst : Region.dstB ops n N = true) (hC0 : ∀ t, C0 t (a0.tmps.getD t undef) s0) (hCs : ∀ t, Stable R (C0 t))
variable (hO : ∀ (j : Nat) (oj : Oper), j < n → ops[j]? = some oj → Obl P ops R U s0 N a0.defers (Cat ops F C0 j) j oj (F j))
include htr hpair hdst hO hC0 hCs

omit htr hdst hO in
theorem Inv.looks {listed : Array Bool} {a : Act} {s : World × γ} (inv : Inv md ops R U s0 F a0 n N listed a s) {j : Nat} {oj : Oper} (hjn : j < n) (hj : ops[j]? = some oj) (hr : j ∈ Region.ready md ops listed) :
    ∀ t ∈ oj.looksAt ops, Cat ops F C0 j t (a.tmps.getD t undef) s := by
  intro t ht
  obtain ⟨hun, o', ho', hall⟩ := mem_ready.1 hr
  rw [hj] at ho'
  obtain rfl := Option.some.inj ho'
  rcases cat_cases (ops := ops) F C0 j t with ⟨i, oi, hi, hoi, hd, hF, _⟩ | ⟨hno, hC⟩
  · rw [hF]
    refine inv.done i oi t (by omega) hoi hd ?_
    rcases pair_spec hpair hi hoi hj with ⟨e, he, hb, hon⟩ | hap
    · rw [← hon]; exact hall e he hb
    · exact absurd ht ((Oper.apart_spec hap).1 t hd)
  · rw [hC]
    have : a.tmps.getD t undef = a0.tmps.getD t undef := inv.old t fun i oi hin hoi hd => by
      by_cases hij : i < j
      · exact absurd hd (hno i oi hij hoi)
      · by_cases hje : i = j
        · subst hje; exact getD_both hun
        · cases hl : listed.getD i false with
          | false => rfl
          | true =>
            rcases pair_spec hpair (show j < i by omega) hj hoi with ⟨e, he, hb, hon⟩ | hap
            · have := inv.head.closed i oi hoi hl e he hb
              rw [hon, getD_both hun] at this
              cases this
            · exact absurd ht ((Oper.apart_spec hap).2.2 t hd)
    rw [this]
    exact hCs t _ _ _ inv.step (hC0 t)

omit hpair hO hC0 hCs in
theorem Inv.put {listed : Array Bool} {a : Act} {s s' : World × γ} (hO : ∀ (j : Nat) (oj : Oper), j < n → ops[j]? = some oj → Stable R (F j)) (inv : Inv md ops R U s0 F a0 n N listed a s) {j : Nat} {oj : Oper} (hjn : j < n) (hj : ops[j]? = some oj) (hr : j ∈ Region.ready md ops listed)
    {v : Value} (hR : R s s') (hv : F j v s') (hU : ∀ k, k ≠ j → U k s → U k s') : Inv md ops R U s0 F a0 n N (listed.setIfInBounds j true) (a.put oj.dst v) s' := by
  have hjs : j < ops.size := (Array.getElem?_eq_some_iff.1 hj).1
  have hls : j < listed.size := by rw [inv.head.size]; exact hjs
  obtain ⟨hdN, _, hun⟩ := dst_spec hdst hjn hj
  have uniq : ∀ (i : Nat) (oi : Oper) (t : Tmp), i < n → ops[i]? = some oi → oi.dst = some t → oj.dst = some t → i = j := by
    intro i oi t hin hoi hd hd'
    rcases Nat.lt_trichotomy i j with h | h | h
    · exact absurd hd' (hun i oi t h hoi hd)
    · exact h
    · exact absurd hd ((dst_spec hdst hin hoi).2.2 j oj t h hj hd')
  refine ⟨inv.head.set hr hjn, htr _ _ _ inv.step hR, ?_, ?_, ?_, ?_, fun k hk hl => ?_⟩
  case refine_5 =>
    by_cases hjk : j = k
    · subst hjk; simp [Array.getD, hls] at hl
    · rw [getD_set_ne false hjk] at hl
      exact hU k (Ne.symm hjk) (inv.todo k hk hl)
  · cases oj.dst <;> simp [Act.put, inv.size]
  · cases oj.dst <;> simp [Act.put, inv.defers]
  · intro i oi t hin hoi hd hl
    by_cases hij : i = j
    · subst hij
      rw [hj] at hoi
      obtain rfl := Option.some.inj hoi
      rw [hd, put_getD]
      rw [if_pos ⟨rfl, by rw [inv.size]; exact hdN t hd⟩]
      exact hv
    · rw [getD_set_ne false (Ne.symm hij)] at hl
      have h1 := hO i oi hin hoi _ _ _ hR (inv.done i oi t hin hoi hd hl)
      cases hdj : oj.dst with
      | none => exact h1
      | some d =>
        rw [put_getD]
        have : d ≠ t := fun h => hij (uniq i oi t hin hoi hd (by rw [hdj, h]))
        simpa [this] using h1
  · intro t ht
    have hne : oj.dst ≠ some t := fun hd => by
      have := ht j oj hjn hj hd
      simp [hls] at this
    have h1 := inv.old t fun i oi hin hoi hd => by
      have := ht i oi hin hoi hd
      by_cases hij : i = j
      · subst hij
        rw [hj] at hoi
        obtain rfl := Option.some.inj hoi
        exact absurd hd hne
      · rwa [getD_set_ne false (Ne.symm hij)] at this
    cases hdj : oj.dst with
    | none => exact h1
    | some d =>
      rw [put_getD]
      have : d ≠ t := fun h => hne (by rw [hdj, h])
      simpa [this] using h1

theorem Inv.wpOp {m : Nat} {listed : Array Bool} {a : Act} {s : World × γ} (inv : Inv md ops R U s0 F a0 n N listed a s) {j : Nat} {oj : Oper} (hjn : j < n) (hj : ops[j]? = some oj) (hr : j ∈ Region.ready md ops listed)
    {K : Act → World → Prop} {Q' : Exit → Act → World → Prop} (hR : ∀ s, R s s) (hK : ∀ a' s', Inv md ops R U s0 F a0 n N (listed.setIfInBounds j true) a' s' → K a' s'.1) : wpOpIn Fence.wide m P ops Q' j K a s.1 := by
  obtain ⟨hst, hob⟩ := hO j oj hjn hj
  have h1 := hob a s inv.step (inv.todo j hjn (getD_both (mem_ready.1 hr).1)) inv.defers inv.size (Inv.looks hpair hC0 hCs inv hjn hj hr)
  have hst' : ∀ (j : Nat) (oj : Oper), j < n → ops[j]? = some oj → Stable R (F j) := fun j oj h h' => (hO j oj h h').1
  unfold Go.wpOpIn
  simp only [hj]
  split
  · rename_i hw
    rw [if_pos hw] at h1
    exact wpIn_of_rel h1 fun v w' ⟨g', h2, h3, h4⟩ => hK _ (w', g') (Inv.put htr hdst hst' inv hjn hj hr h2 h3 h4)
  · rename_i hw
    rw [if_neg hw] at h1
    exact ⟨fun _ _ => trivial, hK _ s (Inv.put htr hdst hst' inv hjn hj hr (hR s) h1 fun _ _ h => h)⟩
end

theorem count_step {listed : Array Bool} {j : Nat} (hj : listed.getD j true = false) (m : Nat) (h : (listed.toList.filter (!·)).length ≤ m + 1) : ((listed.setIfInBounds j true).toList.filter (!·)).length ≤ m := by
  have hlt : j < listed.size := by
    rcases Nat.lt_or_ge j listed.size with h' | h'
    · exact h'
    · simp [Array.getElem?_eq_none h'] at hj
  have hj' : listed[j] = false := by simpa [hlt] using hj
  have h1 : (listed.setIfInBounds j true).toList = listed.toList.take j ++ true :: listed.toList.drop (j + 1) := by
    simp [List.set_eq_take_append_cons_drop, hlt]
  have h2 : listed.toList = listed.toList.take j ++ false :: listed.toList.drop (j + 1) := by
    have e : listed.toList[j]'(by simpa using hlt) = false := by simpa using hj'
    have := List.take_append_drop j listed.toList
    rw [List.drop_eq_getElem_cons (by simpa using hlt), e] at this
    exact this.symm
  rw [h1]
  rw [h2] at h
  simp only [List.filter_append, List.filter_cons, List.length_append] at h ⊢
  simp only [Bool.not_true, Bool.not_false] at h ⊢
  simp only [if_true, List.length_cons] at h
  simp
  omega

theorem count_step' {listed : Array Bool} {j : Nat} (hj : listed.getD j true = false) (m : Nat) (h : (listed.toList.filter (!·)).length = m + 1) : ((listed.setIfInBounds j true).toList.filter (!·)).length = m := by
  have hlt : j < listed.size := by
    rcases Nat.lt_or_ge j listed.size with h' | h'
    · exact h'
    · simp [Array.getElem?_eq_none h'] at hj
  have hj' : listed[j] = false := by simpa [hlt] using hj
  have h1 : (listed.setIfInBounds j true).toList = listed.toList.take j ++ true :: listed.toList.drop (j + 1) := by
    simp [List.set_eq_take_append_cons_drop, hlt]
  have h2 : listed.toList = listed.toList.take j ++ false :: listed.toList.drop (j + 1) := by
    have e : listed.toList[j]'(by simpa using hlt) = false := by simpa using hj'
    have := List.take_append_drop j listed.toList
    rw [List.drop_eq_getElem_cons (by simpa using hlt), e] at this
    exact this.symm
  rw [h1]
  rw [h2] at h
  simp only [List.filter_append, List.filter_cons, List.length_append] at h ⊢
  simp only [Bool.not_true, Bool.not_false] at h ⊢
  simp only [if_true, List.length_cons] at h
  simp
  omega

theorem ready_nil_all {md : Region.Mode} {listed : Array Bool} (hback : Region.backB md ops = true) (hs : listed.size = ops.size) (hr : Region.ready md ops listed = []) : ∀ j, j < ops.size → listed.getD j false = true := by
  intro j
  induction j using Nat.strongRecOn with
  | _ j ih =>
    intro hj
    cases hl : listed.getD j false with
    | true => rfl
    | false =>
      have : j ∈ Region.ready md ops listed := mem_ready.2 ⟨getD_in (by rw [hs]; exact hj) hl, ops[j], by simp [hj], fun e he hb => by
        have hlt := back_spec hback (show ops[j]? = some ops[j] by simp [hj]) he hb
        exact ih e.on hlt (by omega)⟩
      rw [hr] at this
      cases this


/-- How many are not listed. -/
def left (listed : Array Bool) : Nat := (listed.toList.filter (!·)).length

/-- The order runs to its end, no tail. -/
theorem wpAny_of_inv {m : Nat} {md : Region.Mode} {F : Nat → Fact γ} {C0 : Tmp → Fact γ} {a0 : Act} {N : Nat} {Q' : Exit → Act → World → Prop} (hrf : ∀ s, R s s) (htr : ∀ a b c, R a b → R b c → R a c)
    (hpair : Region.pairB md ops = true) (hback : Region.backB md ops = true) (hdst : Region.dstB ops ops.size N = true) (hC0 : ∀ t, C0 t (a0.tmps.getD t undef) s0) (hCs : ∀ t, Stable R (C0 t))
    (hO : ∀ (j : Nat) (oj : Oper), j < ops.size → ops[j]? = some oj → Obl P ops R U s0 N a0.defers (Cat ops F C0 j) j oj (F j))
    (hQ : ∀ a' s, R s0 s → a'.tmps.size = N → a'.defers = a0.defers → (∀ t, t < N → Cat ops F C0 ops.size t (a'.tmps.getD t undef) s) → Q' .normal a' s.1) :
    ∀ (fuel : Nat) (listed : Array Bool) (a : Act) (s : World × γ), left listed ≤ fuel → Inv md ops R U s0 F a0 ops.size N listed a s → wpAnyIn Fence.wide m P md ops Q' fuel listed a s.1 := by
  have fin : ∀ (listed : Array Bool) (a : Act) (s : World × γ), Inv md ops R U s0 F a0 ops.size N listed a s → Region.ready md ops listed = [] → Q' .normal a s.1 := by
    intro listed a s inv hr
    have hall := ready_nil_all hback inv.head.size hr
    refine hQ a s inv.step inv.size inv.defers fun t _ => ?_
    rcases cat_cases (ops := ops) F C0 ops.size t with ⟨i, oi, hi, hoi, hd, hF, _⟩ | ⟨hno, hC⟩
    · rw [hF]; exact inv.done i oi t hi hoi hd (hall i hi)
    · rw [hC, inv.old t fun i oi hi hoi hd => absurd hd (hno i oi hi hoi)]
      exact hCs t _ _ _ inv.step (hC0 t)
  intro fuel
  induction fuel with
  | zero =>
    intro listed a s hc inv
    have hr : Region.ready md ops listed = [] := by
      cases hrr : Region.ready md ops listed with
      | nil => rfl
      | cons x xs =>
        have hx : x ∈ Region.ready md ops listed := by rw [hrr]; simp
        have hun := (mem_ready.1 hx).1
        have hlt : x < listed.size := by
          rcases Nat.lt_or_ge x listed.size with h' | h'
          · exact h'
          · simp [Array.getElem?_eq_none h'] at hun
        have : false ∈ listed.toList := by
          have h2 : listed[x] = false := by simpa [hlt] using hun
          rw [← h2]; simp
        have : false ∈ listed.toList.filter (!·) := List.mem_filter.2 ⟨this, rfl⟩
        have := List.length_pos_of_mem this
        unfold left at hc
        omega
    exact ⟨hr, fin listed a s inv hr⟩
  | succ fuel ih =>
    intro listed a s hc inv
    refine ⟨fin listed a s inv, fun j hj => ?_⟩
    obtain ⟨hun, oj, hoj, _⟩ := mem_ready.1 hj
    have hjs : j < ops.size := (Array.getElem?_eq_some_iff.1 hoj).1
    exact Inv.wpOp htr hpair hdst hC0 hCs hO inv hjs hoj hj hrf fun a' s' inv' => ih _ a' s' (count_step hun fuel hc) inv'

/-- A walk of the tail. -/
def wpListIn (F : Fence) (m : Nat) (P : Program) (ops : Array Oper) (Q : Exit → Act → World → Prop) : List Oper → Act → World → Prop
  | [], a, w => Q .normal a w
  | o :: l, a, w => if Region.wanted o (yielded ops a.tmps) then o.wpIn F m P a w (wpListIn F m P ops Q l) Q else (∀ f, o.about P w a.eval = some f → F.fn f) ∧ wpListIn F m P ops Q l (a.put o.dst undef) w

theorem wpAnyIn_of_seq {F : Fence} {m : Nat} {md : Region.Mode} {Q' : Exit → Act → World → Prop} : ∀ (l : List Oper) (k : Nat) (listed : Array Bool) (a : Act) (w : World), (∀ j : Nat, l[j]? = ops[k + j]?) →
    Region.seqB md ops l.length k listed = true → wpListIn F m P ops Q' l a w → wpAnyIn F m P md ops Q' l.length listed a w
  | [], _, _, _, _, _, hB, h => ⟨by simpa [Region.seqB] using hB, h⟩
  | o :: l, k, listed, a, w, hl, hB, h => by
    have h0 : ops[k]? = some o := by simpa using (hl 0).symm
    simp only [List.length_cons, Region.seqB, Bool.and_eq_true, decide_eq_true_eq] at hB
    refine ⟨fun h1 => (by rw [hB.1] at h1; cases h1), fun i hi => ?_⟩
    rw [hB.1] at hi
    have hik : i = k := by simpa using hi
    subst hik
    have hw : wpOpIn F m P ops Q' i (wpListIn F m P ops Q' l) a w := by unfold wpOpIn; simp only [h0]; exact h
    exact wpOpIn_mono (fun a' w' h' => wpAnyIn_of_seq l (i + 1) _ a' w' (fun j => by have := hl (j + 1); simpa [Nat.add_assoc, Nat.add_comm 1 j] using this) hB.2 h') hw

/-- Each head operation, but those that are taken first, is waited for. -/
def Region.sinkE (md : Region.Mode) (ops : Array Oper) (E : List Nat) (n : Nat) : Bool :=
  (List.range n).all fun i => E.contains i || (List.range (n + 1)).any fun j => decide (i < j) && Region.waits md ops j i
def Region.chainE (md : Region.Mode) (ops : Array Oper) (n : Nat) : Bool :=
  (List.range ops.size).all fun t => decide (t ≤ n) || Region.waits md ops t (t - 1)

theorem tail_waitsE {md : Region.Mode} {E : List Nat} {n : Nat} {listed : Array Bool} (hs : Region.sinkE md ops E n = true) (hc : Region.chainE md ops n = true) (inv : HeadInv md ops n listed) (hE : ∀ i ∈ E, listed.getD i false = true) :
    ∀ (d i : Nat), n - i = d → i < n → listed.getD i true = false → ∀ t, n ≤ t → t ∉ Region.ready md ops listed := by
  intro d
  induction d using Nat.strongRecOn with
  | _ d ih =>
    intro i hd hi hun t ht hr
    obtain ⟨hunt, ot, hot, hall⟩ := mem_ready.1 hr
    have hts : t < ops.size := (Array.getElem?_eq_some_iff.1 hot).1
    -- a tail operation behind the first waits for the one ahead of it
    rcases Nat.lt_or_ge n t with hlt | hge
    · have h1 := List.all_eq_true.1 hc t (List.mem_range.2 hts)
      simp only [Bool.or_eq_true, decide_eq_true_eq] at h1
      rcases h1 with h1 | h1
      · omega
      · obtain ⟨o', ho', e, he, hb, hon⟩ := waits_spec h1
        rw [hot] at ho'
        obtain rfl := Option.some.inj ho'
        have h2 := hall e he hb
        rw [hon, getD_both (inv.tail (t - 1) (by omega) (by omega))] at h2
        cases h2
    · have htn : t = n := by omega
      subst htn
      have h1 := List.all_eq_true.1 hs i (List.mem_range.2 hi)
      simp only [Bool.or_eq_true, List.any_eq_true, List.mem_range, Bool.and_eq_true, decide_eq_true_eq] at h1
      rcases h1 with h1 | ⟨j, hj, hij, hw⟩
      · have := hE i (by simpa using h1)
        rw [getD_both hun] at this
        cases this
      · obtain ⟨oj, hoj, e, he, hb, hon⟩ := waits_spec hw
        rcases Nat.lt_or_ge j t with hjt | hjt
        · have hjun : listed.getD j true = false := by
            cases hl : listed.getD j false with
            | false =>
              have hjs : j < listed.size := by rw [inv.size]; omega
              simpa [Array.getD, hjs] using hl
            | true =>
              have := inv.closed j oj hoj hl e he hb
              rw [hon, getD_both hun] at this
              cases this
          exact ih (t - j) (by omega) j rfl hjt hjun t (Nat.le_refl _) hr
        · have : j = t := by omega
          subst this
          rw [hot] at hoj
          obtain rfl := Option.some.inj hoj
          have h2 := hall e he hb
          rw [hon, getD_both hun] at h2
          cases h2

/-- The head in whatever order, then the tail. -/
theorem wpAny_of_inv_tail {m : Nat} {md : Region.Mode} {F : Nat → Fact γ} {C0 : Tmp → Fact γ} {a0 : Act} {n N : Nat} {E : List Nat} {Q' : Exit → Act → World → Prop} (hrf : ∀ s, R s s) (htr : ∀ a b c, R a b → R b c → R a c)
    (hpair : Region.pairB md ops = true) (hback : Region.backB md ops = true) (hdst : Region.dstB ops n N = true) (hC0 : ∀ t, C0 t (a0.tmps.getD t undef) s0) (hCs : ∀ t, Stable R (C0 t))
    (hn : n < ops.size) (hsink : Region.sinkE md ops E n = true) (hchain : Region.chainE md ops n = true)
    (hO : ∀ (j : Nat) (oj : Oper), j < n → ops[j]? = some oj → Obl P ops R U s0 N a0.defers (Cat ops F C0 j) j oj (F j)) (g : Nat)
    (hQ : ∀ listed a' s, R s0 s → a'.tmps.size = N → a'.defers = a0.defers → (∀ t, t < N → Cat ops F C0 n t (a'.tmps.getD t undef) s) →
      listed.size = ops.size → (∀ j : Nat, j < ops.size → listed.getD j false = decide (j < n)) → wpAnyIn Fence.wide m P md ops Q' g listed a' s.1) :
    ∀ (fuel : Nat) (listed : Array Bool) (a : Act) (s : World × γ), left listed = fuel + (ops.size - n) → (∀ i ∈ E, listed.getD i false = true) → Inv md ops R U s0 F a0 n N listed a s → wpAnyIn Fence.wide m P md ops Q' (fuel + g) listed a s.1 := by
  intro fuel
  induction fuel with
  | zero =>
    intro listed a s hc hE inv
    rw [Nat.zero_add] at hc ⊢
    have hall : ∀ j : Nat, j < n → listed.getD j false = true := by
      intro j hj
      cases hl : listed.getD j false with
      | true => rfl
      | false =>
        have hls := inv.head.size
        have htail : (listed.toList.drop n).filter (!·) = listed.toList.drop n := by
          rw [List.filter_eq_self]
          intro x hx
          obtain ⟨k, hk, rfl⟩ := List.mem_iff_getElem.1 hx
          simp only [List.length_drop, Array.length_toList] at hk
          have := inv.head.tail (n + k) (by omega) (by omega)
          have hlt : n + k < listed.size := by omega
          simp only [Array.getD, hlt, dif_pos] at this
          simpa using this
        have hhead : 0 < ((listed.toList.take n).filter (!·)).length := by
          apply List.length_pos_of_mem (a := false)
          refine List.mem_filter.2 ⟨?_, rfl⟩
          have hlt : j < listed.size := by omega
          have hf : listed[j] = false := by simpa [hlt] using hl
          have : (listed.toList.take n)[j]'(by simp; omega) = false := by simpa using hf
          rw [← this]
          exact List.getElem_mem _
        have h2 : listed.toList.filter (!·) = (listed.toList.take n).filter (!·) ++ (listed.toList.drop n).filter (!·) := by
          rw [← List.filter_append, List.take_append_drop]
        have hlen : (listed.toList.drop n).length = ops.size - n := by simp [hls]
        unfold left at hc
        rw [h2, htail, List.length_append, hlen] at hc
        omega
    refine hQ listed a s inv.step inv.size inv.defers (fun t _ => ?_) inv.head.size fun j hj => ?_
    · rcases cat_cases (ops := ops) F C0 n t with ⟨i, oi, hi, hoi, hd, hF, _⟩ | ⟨hno, hC⟩
      · rw [hF]; exact inv.done i oi t hi hoi hd (hall i hi)
      · rw [hC, inv.old t fun i oi hi hoi hd => absurd hd (hno i oi hi hoi)]
        exact hCs t _ _ _ inv.step (hC0 t)
    · by_cases hjn : j < n
      · simp [hall j hjn, hjn]
      · have := getD_both (inv.head.tail j (by omega) hj)
        simp [this, hjn]
  | succ fuel ih =>
    intro listed a s hc hE inv
    rw [show fuel + 1 + g = (fuel + g) + 1 by omega]
    have hex : ∃ j, j < n ∧ listed.getD j false = false := by
      refine Classical.byContradiction fun hno => ?_
      have hall : ∀ j : Nat, j < n → listed.getD j false = true := fun j hj => by
        cases hl : listed.getD j false with
        | true => rfl
        | false => exact absurd ⟨j, hj, hl⟩ hno
      have hls := inv.head.size
      have hhead : (listed.toList.take n).filter (!·) = [] := by
        rw [List.filter_eq_nil_iff]
        intro x hx
        obtain ⟨k, hk, rfl⟩ := List.mem_iff_getElem.1 hx
        simp only [List.length_take, Array.length_toList] at hk
        have := hall k (by omega)
        have hlt : k < listed.size := by omega
        simp only [Array.getD, hlt, dif_pos] at this
        simpa using this
      have h2 : listed.toList.filter (!·) = (listed.toList.take n).filter (!·) ++ (listed.toList.drop n).filter (!·) := by
        rw [← List.filter_append, List.take_append_drop]
      have h3 := List.length_filter_le (fun x : Bool => !x) (listed.toList.drop n)
      unfold left at hc
      rw [h2, hhead] at hc
      simp only [List.nil_append, List.length_drop, Array.length_toList] at hc h3
      omega
    obtain ⟨j0, hj0, hl0⟩ := hex
    have hnotail : ∀ t, n ≤ t → t ∉ Region.ready md ops listed :=
      tail_waitsE hsink hchain inv.head hE (n - j0) j0 rfl hj0 (getD_in (by rw [inv.head.size]; omega) hl0)
    have hne : Region.ready md ops listed ≠ [] := fun hr => by
      have := ready_nil_all hback inv.head.size hr j0 (by omega)
      rw [hl0] at this
      cases this
    refine ⟨fun hr => absurd hr hne, fun j hj => ?_⟩
    obtain ⟨hun, oj, hoj, _⟩ := mem_ready.1 hj
    have hjn : j < n := by
      rcases Nat.lt_or_ge j n with h | h
      · exact h
      · exact absurd hj (hnotail j h)
    refine Inv.wpOp htr hpair hdst hC0 hCs hO inv hjn hoj hj hrf fun a' s' inv' => ih _ a' s' (count_step' hun _ (by unfold left at hc; omega)) (fun i hi => ?_) inv'
    by_cases hij : j = i
    · subst hij
      have := hE j hi
      rw [getD_both hun] at this
      cases this
    · rw [getD_set_ne false hij]; exact hE i hi

/-! ### Operations that are taken first: a slot's value moved that nothing in the region writes -/

def Oper.freeB (md : Region.Mode) (ops : Array Oper) (i : Nat) (o : Oper) : Bool :=
  o.guard.isNone && o.after.all (fun e => !Region.binds md e) && (match o.op with | .move _ => true | _ => false) && o.dst.isSome &&
  (List.range ops.size).all fun j => decide (j = i) || match ops[j]? with
    | some oj => oj.after.any (fun e => Region.binds md e && e.on == i) || o.apart ops oj
    | none => true
def freeE (md : Region.Mode) (ops : Array Oper) (n : Nat) : List Nat := (List.range n).filter fun i => match ops[i]? with | some o => Oper.freeB md ops i o | none => false

def putE (ops : Array Oper) : List Nat → Act → Act
  | [], a => a
  | i :: E, a => putE ops E (match ops[i]? with | some o => (match o.op with | .move x => a.put o.dst (a.eval x) | _ => a) | none => a)
def listE : List Nat → Array Bool → Array Bool
  | [], l => l
  | i :: E, l => listE E (l.setIfInBounds i true)

end
end Go.Proofs.Ytefciekodhpefaa
