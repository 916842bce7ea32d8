/- A law for a region that draws its order: one walk in the order of the text, for operations that only read, make memory, or call functions that do so; a value may be known by a fact that later worlds keep. -/
import Derived.StillTail
import Derived.Below
import Derived.Deep.Draws
import Derived.WalkKit
import Derived.WalkSpells
import Derived.WalkLawsBesides
namespace Go.Proofs.Ytnalgofemikggaa
open Go.RowKit

abbrev Fact := Value → World → Prop

/-- What the operation yields. -/
def Oper.relUpon (P : Program) (K : Value → World → Prop) : Result Next → Prop
  | .ok (.value u) w' => K u w'
  | .ok .skip w' => K undef w'
  | .ok (.enter f args) w' => Calls P f args w' fun e w'' => ∃ v, e = .returned v ∧ K v w''
  | .ok (.row row args) w' => Rows P row args w' K
  | _ => False

def rel (P : Program) (o : Oper) (a : Act) (w : World) (K : Value → World → Prop) : Prop := Oper.relUpon P K ((execOp a.eval o).run P w)

theorem wp_of_rel {P : Program} {o : Oper} {a : Act} {w : World} {K : Value → World → Prop} {K' : Act → World → Prop} {Q : Exit → Act → World → Prop}
    (h : rel P o a w K) (hk : ∀ v w', K v w' → K' (a.put o.dst v) w') : o.wp P a w K' Q := by
  unfold rel at h
  unfold Oper.wp
  generalize (execOp a.eval o).run P w = r at *
  cases r with
  | ok n w' =>
    cases n <;> simp only [Oper.relUpon] at h <;> simp only [Oper.upon]
    case value u => exact hk _ _ h
    case skip => exact hk _ _ h
    case enter f args => exact h.mono fun e w'' ⟨v, he, hv⟩ => by subst he; exact hk _ _ hv
    case row r args => exact h.mono fun v w'' hv => hk _ _ hv
  | halt x w' => simp only [Oper.relUpon] at h

theorem rel_mono {P : Program} {o : Oper} {a : Act} {w : World} {K K' : Value → World → Prop} (h : rel P o a w K) (hk : ∀ v w', K v w' → K' v w') : rel P o a w K' := by
  unfold rel at *
  generalize (execOp a.eval o).run P w = r at *
  cases r with
  | ok n w' =>
    cases n <;> simp only [Oper.relUpon] at h ⊢
    case value u => exact hk _ _ h
    case skip => exact hk _ _ h
    case enter f args => exact h.mono fun e w'' ⟨v, he, hv⟩ => ⟨v, he, hk _ _ hv⟩
    case row r args => exact h.mono fun v w'' hv => hk _ _ hv
  | halt x w' => simp only [Oper.relUpon] at h

attribute [go_sem] rel Oper.relUpon

def fill (a : Act) (σ : Tmp → Value) : List (Tmp × Fact) → Act
  | [] => a
  | (d, _) :: Γ => (fill a σ Γ).put (some d) (σ d)

attribute [go_sem] fill

def factsAt (look : List Tmp) (σ : Tmp → Value) (w : World) : List (Tmp × Fact) → Prop
  | [] => True
  | (d, F) :: Γ => (d ∈ look → F (σ d) w) ∧ factsAt look σ w Γ

def allFacts (σ : Tmp → Value) (w : World) : List (Tmp × Fact) → Prop
  | [] => True
  | (d, F) :: Γ => F (σ d) w ∧ allFacts σ w Γ

def Stable (R : World → World → Prop) (F : Fact) : Prop := ∀ v w w', R w w' → F v w → F v w'

def wpRel (P : Program) (ops : Array Oper) (R : World → World → Prop) (w0 : World) (Q : Act → World → Prop) : List (Tmp × Fact) → List Oper → Act → Prop
  | Γ, [], a => ∀ σ w, R w0 w → allFacts σ w Γ → Q (fill a σ Γ) w
  | Γ, o :: rest, a =>
    ((∀ σ, Region.wanted o (yielded ops (fill a σ Γ).tmps) = false) ∧ wpRel P ops R w0 Q Γ rest (a.put o.dst undef)) ∨
    ((∀ σ, Region.wanted o (yielded ops (fill a σ Γ).tmps) = true) ∧
      ((∃ c, (∀ σ w, R w0 w → factsAt (o.looksAt ops) σ w Γ → rel P o (fill a σ Γ) w fun v w' => R w w' ∧ v = c) ∧ wpRel P ops R w0 Q Γ rest (a.put o.dst c)) ∨
       (∃ d F, o.dst = some d ∧ Stable R F ∧ (∀ σ w, R w0 w → factsAt (o.looksAt ops) σ w Γ → rel P o (fill a σ Γ) w fun v w' => R w w' ∧ F v w') ∧ wpRel P ops R w0 Q ((d, F) :: Γ) rest a)))

section
variable {P : Program} {ops : Array Oper} {R : World → World → Prop} {w0 : World} {Q : Act → World → Prop} {Γ : List (Tmp × Fact)} {o : Oper} {rest : List Oper} {a : Act}

theorem wpRel_skip (hw : ∀ σ, Region.wanted o (yielded ops (fill a σ Γ).tmps) = false) (h : wpRel P ops R w0 Q Γ rest (a.put o.dst undef)) : wpRel P ops R w0 Q Γ (o :: rest) a :=
  .inl ⟨hw, h⟩
theorem wpRel_val (hw : ∀ σ, Region.wanted o (yielded ops (fill a σ Γ).tmps) = true) (c : Value)
    (hg : ∀ σ w, R w0 w → factsAt (o.looksAt ops) σ w Γ → rel P o (fill a σ Γ) w fun v w' => R w w' ∧ v = c) (h : wpRel P ops R w0 Q Γ rest (a.put o.dst c)) : wpRel P ops R w0 Q Γ (o :: rest) a :=
  .inr ⟨hw, .inl ⟨c, hg, h⟩⟩
theorem wpRel_ex (hw : ∀ σ, Region.wanted o (yielded ops (fill a σ Γ).tmps) = true)
    (h : ∃ c, (∀ σ w, R w0 w → factsAt (o.looksAt ops) σ w Γ → rel P o (fill a σ Γ) w fun v w' => R w w' ∧ v = c) ∧ wpRel P ops R w0 Q Γ rest (a.put o.dst c)) : wpRel P ops R w0 Q Γ (o :: rest) a :=
  .inr ⟨hw, .inl h⟩
theorem wpRel_fact (hw : ∀ σ, Region.wanted o (yielded ops (fill a σ Γ).tmps) = true) (d : Tmp) (F : Fact) (hd : o.dst = some d) (hs : Stable R F)
    (hg : ∀ σ w, R w0 w → factsAt (o.looksAt ops) σ w Γ → rel P o (fill a σ Γ) w fun v w' => R w w' ∧ F v w') (h : wpRel P ops R w0 Q ((d, F) :: Γ) rest a) : wpRel P ops R w0 Q Γ (o :: rest) a :=
  .inr ⟨hw, .inr ⟨d, F, hd, hs, hg, h⟩⟩
end

/-! ### The law -/

def upd (C : Tmp → Fact) (d : Option Tmp) (F : Fact) : Tmp → Fact := fun t => if d = some t then F else C t

/-- What is known of slot t behind the first j operations of the text. -/
def Cat (ops : Array Oper) (F : Nat → Fact) (C0 : Tmp → Fact) : Nat → Tmp → Fact
  | 0 => C0
  | j + 1 => upd (Cat ops F C0 j) ((ops[j]?).bind (·.dst)) (F j)

section
variable {P : Program} {ops : Array Oper} {R : World → World → Prop} {w0 : World}

def Obl (P : Program) (ops : Array Oper) (R : World → World → Prop) (w0 : World) (N : Nat) (D : List Deferred) (C : Tmp → Fact) (o : Oper) (F : Fact) : Prop :=
  Stable R F ∧ ∀ a w, R w0 w → a.defers = D → a.tmps.size = N → (∀ t ∈ o.looksAt ops, C t (a.tmps.getD t undef) w) →
    if Region.wanted o (yielded ops a.tmps) = true then rel P o a w fun v w' => R w w' ∧ F v w' else F undef w

def constr (Γ : List (Tmp × Fact)) (a : Act) : Tmp → Fact
  | t => match Γ with
    | [] => fun v _ => v = a.tmps.getD t undef
    | (d, F) :: Γ => if d = t then F else constr Γ a t

theorem fill_defers (a : Act) (σ : Tmp → Value) : ∀ Γ, (fill a σ Γ).defers = a.defers
  | [] => rfl
  | (d, _) :: Γ => by simp [fill, Act.put, fill_defers a σ Γ]
theorem fill_size (a : Act) (σ : Tmp → Value) : ∀ Γ, (fill a σ Γ).tmps.size = a.tmps.size
  | [] => rfl
  | (d, _) :: Γ => by simp [fill, Act.put, fill_size a σ Γ]

theorem put_getD (a : Act) (d t : Tmp) (v : Value) : (a.put (some d) v).tmps.getD t undef = if d = t ∧ t < a.tmps.size then v else a.tmps.getD t undef := by
  simp only [Act.put, Array.getD_eq_getD_getElem?, Array.getElem?_setIfInBounds]
  by_cases h : d = t
  · subst h
    by_cases h' : d < a.tmps.size <;> simp [h']
  · simp [h]

/-- A state that meets the constraints is, for what is looked at, the filled one. -/
theorem fill_agrees (a a' : Act) (w : World) (hN : a'.tmps.size = a.tmps.size) : ∀ Γ t, (t < a.tmps.size) → constr Γ a t (a'.tmps.getD t undef) w → (fill a (fun d => a'.tmps.getD d undef) Γ).tmps.getD t undef = a'.tmps.getD t undef
  | [], t, _, h => by simpa [fill, constr] using h.symm
  | (d, F) :: Γ, t, ht, h => by
    unfold fill
    rw [put_getD, fill_size]
    by_cases hd : d = t
    · subst hd; simp [ht]
    · simp only [hd, false_and, if_false]
      exact fill_agrees a a' w hN Γ t ht (by simpa [constr, hd] using h)

theorem facts_of {look : List Tmp} {a' : Act} {w : World} {a : Act} : ∀ Γ (_ : (Γ.map (·.1)).Nodup), (∀ t ∈ look, constr Γ a t (a'.tmps.getD t undef) w) → factsAt look (fun d => a'.tmps.getD d undef) w Γ := by
  intro Γ
  suffices H : ∀ (Γ Δ : List (Tmp × Fact)), ((Γ ++ Δ).map (·.1)).Nodup → (∀ t ∈ look, t ∉ Γ.map (·.1) → constr Δ a t (a'.tmps.getD t undef) w) → factsAt look (fun d => a'.tmps.getD d undef) w Δ by
    intro hn h
    exact H [] Γ (by simpa using hn) (fun t ht _ => h t ht)
  intro Γ Δ
  induction Δ generalizing Γ with
  | nil => intro _ _; trivial
  | cons p Δ ih =>
    obtain ⟨d, F⟩ := p
    intro hn h
    have hd : d ∉ Γ.map (·.1) := by
      simp only [List.map_append, List.map_cons, List.nodup_append, List.nodup_cons] at hn
      intro hm
      exact hn.2.2 d hm d (by simp) rfl
    refine ⟨fun hl => by simpa [constr] using h d hl hd, ih (Γ ++ [(d, F)]) (by simpa using hn) fun t ht hno => ?_⟩
    simp only [List.map_append, List.map_cons, List.map_nil, List.mem_append, List.mem_singleton, not_or] at hno
    have := h t ht hno.1
    simpa [constr, Ne.symm hno.2] using this

theorem allFacts_of {N : Nat} {a' : Act} {w : World} {a : Act} : ∀ Γ (_ : (Γ.map (·.1)).Nodup) (_ : ∀ d ∈ Γ.map (·.1), d < N), (∀ t, t < N → constr Γ a t (a'.tmps.getD t undef) w) → allFacts (fun d => a'.tmps.getD d undef) w Γ := by
  intro Γ hn hN h
  have := facts_of (look := List.range N) (a' := a') (w := w) (a := a) Γ hn (fun t ht => h t (List.mem_range.1 ht))
  clear h hn
  induction Γ with
  | nil => trivial
  | cons p Γ ih =>
    obtain ⟨d, F⟩ := p
    exact ⟨this.1 (List.mem_range.2 (hN d (by simp))), ih (fun x hx => hN x (by simp at hx ⊢; exact .inr hx)) this.2⟩

theorem act_ext {a b : Act} (h1 : a.tmps.size = b.tmps.size) (h2 : a.defers = b.defers) (h : ∀ t, t < a.tmps.size → a.tmps.getD t undef = b.tmps.getD t undef) : a = b := by
  obtain ⟨x, y⟩ := a
  obtain ⟨x', y'⟩ := b
  simp only at h1 h2 h
  subst h2
  congr 1
  refine Array.ext h1 fun i hi hi' => ?_
  have := h i hi
  simpa [Array.getD, hi, hi'] using this

theorem eval_agree {a a' : Act} {o : Oper} (hs : ∀ cs b, o.op ≠ .select cs b) (h : ∀ t ∈ o.looksAt ops, a.tmps.getD t undef = a'.tmps.getD t undef) : execOp a.eval o = execOp a'.eval o :=
  execOp_congr o hs fun x hx => by
    cases x with
    | tmp t => exact h t (List.mem_append_left _ (List.mem_filterMap.2 ⟨.tmp t, by simpa using hx, rfl⟩))
    | _ => rfl

theorem wanted_agree {a a' : Act} {o : Oper} (hN : a.tmps.size = a'.tmps.size) (h : ∀ t ∈ o.looksAt ops, a.tmps.getD t undef = a'.tmps.getD t undef) :
    Region.wanted o (yielded ops a.tmps) = Region.wanted o (yielded ops a'.tmps) := by
  unfold Region.wanted
  cases hg : o.guard with
  | none => rfl
  | some gw =>
    obtain ⟨g, want⟩ := gw
    have hy : yielded ops a.tmps g = yielded ops a'.tmps g := by
      unfold yielded
      cases ht : (ops[g]?).bind (·.dst) with
      | none => rfl
      | some t =>
        have := h t (by simp [Oper.looksAt, hg, ht])
        simp only [Option.bind_some]
        by_cases hlt : t < a.tmps.size
        · have hlt' : t < a'.tmps.size := hN ▸ hlt
          simp [Array.getD, hlt, hlt'] at this
          simp [hlt, hlt', this]
        · have hlt' : ¬ t < a'.tmps.size := hN ▸ hlt
          simp [hlt, hlt']
    simp only [hy]

theorem rel_agree {a a' : Act} {o : Oper} {w : World} {K : Value → World → Prop} (he : execOp a.eval o = execOp a'.eval o) (h : rel P o a w K) : rel P o a' w K := by
  unfold rel at *
  rwa [← he]

/-- The two Bools over the region. 'pairB': what is not apart goes in the order of the text. -/
def Region.waits (md : Region.Mode) (ops : Array Oper) (j i : Nat) : Bool :=
  match ops[j]? with
  | some oj => oj.after.any fun e => Region.binds md e && e.on == i
  | none => false
def Region.pairB (md : Region.Mode) (ops : Array Oper) : Bool :=
  (List.range ops.size).all fun j => (List.range j).all fun i => Region.waits md ops j i || match ops[i]?, ops[j]? with
    | some oi, some oj => oi.apart ops oj
    | _, _ => true
def Region.backB (md : Region.Mode) (ops : Array Oper) : Bool :=
  (List.range ops.size).all fun j => match ops[j]? with
    | some oj => oj.after.all fun e => !Region.binds md e || decide (e.on < j)
    | none => true
/-- The first n write unlike slots, all below N; what is looked at is below N, too. -/
def Region.dstB (ops : Array Oper) (n N : Nat) : Bool :=
  (List.range n).all fun j => match ops[j]? with
    | some oj => (match oj.dst with | some d => decide (d < N) | none => true) && (oj.looksAt ops).all (fun t => decide (t < N)) &&
        (List.range j).all fun i => match ops[i]? with
          | some oi => (match oi.dst, oj.dst with | some d, some d' => !(d == d') | _, _ => true)
          | none => true
    | none => true
def Region.relB (md : Region.Mode) (ops : Array Oper) (n N : Nat) : Bool :=
  Region.noSelect ops && Region.pairB md ops && Region.backB md ops && Region.dstB ops n N

def Region.relTailB (md : Region.Mode) (ops : Array Oper) (n N : Nat) : Bool :=
  Region.relB md ops n N && decide (n < ops.size) && Region.sinkB md ops n && Region.chainB md ops n && Region.seqB md ops (ops.size - n) n (Array.replicate n true ++ Array.replicate (ops.size - n) false)

theorem waits_spec {md : Region.Mode} {j i : Nat} (h : Region.waits md ops j i = true) : ∃ oj, ops[j]? = some oj ∧ ∃ e ∈ oj.after, Region.binds md e = true ∧ e.on = i := by
  unfold Region.waits at h
  split at h
  · rename_i oj hj
    obtain ⟨e, he, hb⟩ := Array.any_eq_true'.1 h
    simp only [Bool.and_eq_true, beq_iff_eq] at hb
    exact ⟨oj, hj, e, he, hb.1, hb.2⟩
  · cases h

theorem pair_spec {md : Region.Mode} (h : Region.pairB md ops = true) {i j : Nat} {oi oj : Oper} (hij : i < j) (hi : ops[i]? = some oi) (hj : ops[j]? = some oj) :
    (∃ e ∈ oj.after, Region.binds md e = true ∧ e.on = i) ∨ oi.apart ops oj = true := by
  have hjs : j < ops.size := (Array.getElem?_eq_some_iff.1 hj).1
  have h1 := List.all_eq_true.1 (List.all_eq_true.1 h j (List.mem_range.2 hjs)) i (List.mem_range.2 hij)
  simp only [hi, hj, Bool.or_eq_true] at h1
  rcases h1 with h1 | h1
  · obtain ⟨o', ho', e, he⟩ := waits_spec h1
    rw [hj] at ho'
    obtain rfl := Option.some.inj ho'
    exact .inl ⟨e, he⟩
  · exact .inr h1

theorem back_spec {md : Region.Mode} (h : Region.backB md ops = true) {j : Nat} {oj : Oper} (hj : ops[j]? = some oj) {e : Edge} (he : e ∈ oj.after) (hb : Region.binds md e = true) : e.on < j := by
  have hjs : j < ops.size := (Array.getElem?_eq_some_iff.1 hj).1
  have h1 := List.all_eq_true.1 h j (List.mem_range.2 hjs)
  simp only [hj] at h1
  have := Array.all_eq_true_iff_forall_mem.1 h1 e he
  simpa [hb] using this

theorem dst_spec {n N : Nat} (h : Region.dstB ops n N = true) {j : Nat} {oj : Oper} (hjn : j < n) (hj : ops[j]? = some oj) :
    (∀ d, oj.dst = some d → d < N) ∧ (∀ t ∈ oj.looksAt ops, t < N) ∧ ∀ i oi d, i < j → ops[i]? = some oi → oi.dst = some d → oj.dst ≠ some d := by
  have h1 := List.all_eq_true.1 h j (List.mem_range.2 hjn)
  simp only [hj, Bool.and_eq_true] at h1
  obtain ⟨⟨h1, h2⟩, h3⟩ := h1
  refine ⟨fun d hd => by simpa [hd] using h1, fun t ht => by simpa using List.all_eq_true.1 h2 t ht, fun i oi d hi hoi hd hd' => ?_⟩
  have := List.all_eq_true.1 h3 i (List.mem_range.2 hi)
  simp [hoi, hd, hd'] at this

/-- Slot t behind j operations. -/
theorem cat_cases (F : Nat → Fact) (C0 : Tmp → Fact) : ∀ j t, (∃ i oi, i < j ∧ ops[i]? = some oi ∧ oi.dst = some t ∧ Cat ops F C0 j t = F i ∧ ∀ k ok, i < k → k < j → ops[k]? = some ok → ok.dst ≠ some t) ∨
    ((∀ i oi, i < j → ops[i]? = some oi → oi.dst ≠ some t) ∧ Cat ops F C0 j t = C0 t)
  | 0, t => .inr ⟨fun i _ h => by omega, rfl⟩
  | j + 1, t => by
    by_cases hd : (ops[j]?).bind (·.dst) = some t
    · left
      cases ho : ops[j]? with
      | none => simp [ho] at hd
      | some oj =>
        simp only [ho, Option.bind_some] at hd
        exact ⟨j, oj, by omega, ho, hd, by simp [Cat, upd, ho, hd], fun k _ h1 h2 => by omega⟩
    · have he : Cat ops F C0 (j + 1) t = Cat ops F C0 j t := by simp [Cat, upd, hd]
      have hno : ∀ oj, ops[j]? = some oj → oj.dst ≠ some t := fun oj ho h => hd (by simp [ho, h])
      rcases cat_cases F C0 j t with ⟨i, oi, hi, hoi, hdt, hF, hlast⟩ | ⟨h1, h2⟩
      · refine .inl ⟨i, oi, by omega, hoi, hdt, he.trans hF, fun k ok h1 h2 hk => ?_⟩
        by_cases hkj : k = j
        · subst hkj; exact hno ok hk
        · exact hlast k ok h1 (by omega) hk
      · refine .inr ⟨fun i oi hi hoi => ?_, he.trans h2⟩
        by_cases hij : i = j
        · subst hij; exact hno oi hoi
        · exact h1 i oi (by omega) hoi

/-- What the walk of the text has shown. -/
theorem chain_of {Q : Act → World → Prop} {n N : Nat} {D : List Deferred} (hsel : Region.noSelect ops = true) (hdst : Region.dstB ops n N = true) :
    ∀ (l : List Oper) (k : Nat) (Γ : List (Tmp × Fact)) (a : Act) (F0 : Nat → Fact) (C0 : Tmp → Fact), k + l.length = n → (∀ j, j < l.length → l[j]? = ops[k + j]?) → a.tmps.size = N → a.defers = D →
    (Γ.map (·.1)).Nodup → (∀ d ∈ Γ.map (·.1), d < N ∧ ∃ i oi, i < k ∧ ops[i]? = some oi ∧ oi.dst = some d) → (∀ t, Cat ops F0 C0 k t = constr Γ a t) →
    wpRel P ops R w0 Q Γ l a → ∃ F : Nat → Fact, (∀ i, i < k → F i = F0 i) ∧ (∀ j oj, k ≤ j → j < n → ops[j]? = some oj → Obl P ops R w0 N D (Cat ops F C0 j) oj (F j)) ∧
      ∀ a' w, R w0 w → a'.tmps.size = N → a'.defers = D → (∀ t, t < N → Cat ops F C0 n t (a'.tmps.getD t undef) w) → Q a' w := by
  intro l
  induction l with
  | nil =>
    intro k Γ a F0 C0 hk _ hN hD hnd hkeys hC h
    have hkn : k = n := by simpa using hk
    subst hkn
    refine ⟨F0, fun _ _ => rfl, fun j _ h1 h2 => by omega, fun a' w hR hN' hD' hc => ?_⟩
    have hc' : ∀ t, t < N → constr Γ a t (a'.tmps.getD t undef) w := fun t ht => by rw [← hC t]; exact hc t ht
    have e : fill a (fun d => a'.tmps.getD d undef) Γ = a' := by
      refine act_ext (by rw [fill_size, hN, hN']) (by rw [fill_defers, hD, hD']) fun t ht => ?_
      rw [fill_size, hN] at ht
      exact fill_agrees a a' w (by rw [hN, hN']) Γ t (by rw [hN]; exact ht) (hc' t ht)
    have := h (fun d => a'.tmps.getD d undef) w hR (allFacts_of (N := N) Γ hnd (fun d hd => (hkeys d hd).1) hc')
    rwa [e] at this
  | cons o l ih =>
    intro k Γ a F0 C0 hk hl hN hD hnd hkeys hC h
    simp only [List.length_cons] at hk
    have hok : ops[k]? = some o := by simpa using (hl 0 (by simp)).symm
    have hkn : k < n := by omega
    obtain ⟨hdN, hlook, hun⟩ := dst_spec hdst hkn hok
    have hs : ∀ cs b, o.op ≠ .select cs b := fun cs b => Region.noSelect_spec hsel k o cs b hok
    have hl' : ∀ j, j < l.length → l[j]? = ops[k + 1 + j]? := fun j hj => by
      have := hl (j + 1) (by simp; omega)
      simpa [Nat.add_assoc, Nat.add_comm 1 j] using this
    -- 'F0' turned at k does not turn what lies below
    have hcat : ∀ (F F' : Nat → Fact) j t, (∀ i, i < j → F i = F' i) → Cat ops F C0 j t = Cat ops F' C0 j t := by
      intro F F' j
      induction j with
      | zero => intro t _; rfl
      | succ j ihj => intro t hF; simp only [Cat, upd, hF j (by omega), ihj t (fun i hi => hF i (by omega))]
    have hnokey : ∀ d, o.dst = some d → d ∉ Γ.map (·.1) := fun d hd hm => by
      obtain ⟨_, i, oi, hi, hoi, hdi⟩ := hkeys d hm
      exact hun i oi d hi hoi hdi hd
    have hkeys' : ∀ d ∈ Γ.map (·.1), d < N ∧ ∃ i oi, i < k + 1 ∧ ops[i]? = some oi ∧ oi.dst = some d := fun d hd => by
      obtain ⟨h1, i, oi, hi, hr⟩ := hkeys d hd
      exact ⟨h1, i, oi, by omega, hr⟩
    -- the obligation at k, whatever the later facts
    have mk : ∀ Fk : Fact, Stable R Fk → (∀ a' w, R w0 w → a'.defers = D → a'.tmps.size = N → (∀ t ∈ o.looksAt ops, constr Γ a t (a'.tmps.getD t undef) w) →
        if Region.wanted o (yielded ops a'.tmps) = true then rel P o a' w fun v w' => R w w' ∧ Fk v w' else Fk undef w) →
        ∀ F : Nat → Fact, (∀ i, i < k + 1 → F i = (fun i => if i = k then Fk else F0 i) i) → Obl P ops R w0 N D (Cat ops F C0 k) o (F k) := by
      intro Fk hst hob F hF
      have e1 : F k = Fk := by rw [hF k (by omega)]; simp
      rw [e1]
      refine ⟨hst, fun a' w hR hD' hN' hc => hob a' w hR hD' hN' fun t ht => ?_⟩
      have := hc t ht
      rw [hcat F F0 k t (fun i hi => by rw [hF i (by omega)]; simp [Nat.ne_of_lt hi]), hC t] at this
      exact this
    have same : ∀ (a' : Act) (w : World), a'.tmps.size = N → (∀ t ∈ o.looksAt ops, constr Γ a t (a'.tmps.getD t undef) w) → ∀ t ∈ o.looksAt ops, (fill a (fun d => a'.tmps.getD d undef) Γ).tmps.getD t undef = a'.tmps.getD t undef :=
      fun a' w hN' hc t ht => fill_agrees a a' w (by rw [hN, hN']) Γ t (by rw [hN]; exact hlook t ht) (hc t ht)
    have fin : ∀ (Fk : Fact) (Γ' : List (Tmp × Fact)) (a2 : Act), a2.tmps.size = N → a2.defers = D → (Γ'.map (·.1)).Nodup → (∀ d ∈ Γ'.map (·.1), d < N ∧ ∃ i oi, i < k + 1 ∧ ops[i]? = some oi ∧ oi.dst = some d) →
        (∀ t, (if o.dst = some t then Fk else constr Γ a t) = constr Γ' a2 t) → Stable R Fk → (∀ a' w, R w0 w → a'.defers = D → a'.tmps.size = N → (∀ t ∈ o.looksAt ops, constr Γ a t (a'.tmps.getD t undef) w) →
        if Region.wanted o (yielded ops a'.tmps) = true then rel P o a' w fun v w' => R w w' ∧ Fk v w' else Fk undef w) → wpRel P ops R w0 Q Γ' l a2 →
        ∃ F : Nat → Fact, (∀ i, i < k → F i = F0 i) ∧ (∀ j oj, k ≤ j → j < n → ops[j]? = some oj → Obl P ops R w0 N D (Cat ops F C0 j) oj (F j)) ∧
          ∀ a' w, R w0 w → a'.tmps.size = N → a'.defers = D → (∀ t, t < N → Cat ops F C0 n t (a'.tmps.getD t undef) w) → Q a' w := by
      intro Fk Γ' a2 h1 h2 h3 h4 h5 hst hob h6
      obtain ⟨F, hF, hO, hQ⟩ := ih (k + 1) Γ' a2 (fun i => if i = k then Fk else F0 i) C0 (by omega) hl' h1 h2 h3 h4 (fun t => by
        rw [← h5 t, ← hC t]
        simp only [Cat, upd, hok, Option.bind_some, if_true]
        rw [hcat (fun i => if i = k then Fk else F0 i) F0 k t (fun i hi => by simp [Nat.ne_of_lt hi])]) h6
      refine ⟨F, fun i hi => by rw [hF i (by omega)]; simp [Nat.ne_of_lt hi], fun j oj hkj hjn hj => ?_, hQ⟩
      by_cases hjk : j = k
      · subst hjk
        rw [hok] at hj
        obtain rfl := Option.some.inj hj
        exact mk Fk hst hob F hF
      · exact hO j oj (by omega) hjn hj
    have putC : ∀ c : Value, ∀ t, (if o.dst = some t then (fun v (_ : World) => v = c : Fact) else constr Γ a t) = constr Γ (a.put o.dst c) t := by
      intro c t
      cases hd : o.dst with
      | none => simp [Act.put]
      | some d =>
        have hk1 := hnokey d hd
        have hdlt := hdN d hd
        clear same mk fin hkeys hkeys' hC hnd h
        induction Γ with
        | nil =>
          simp only [constr, put_getD]
          by_cases hdt : d = t
          · subst hdt; simp [hN, hdlt]
          · simp [hdt]
        | cons p Γ ihΓ =>
          obtain ⟨d', F'⟩ := p
          simp only [List.map_cons, List.mem_cons, not_or] at hk1
          have := ihΓ (fun d2 hd2 => by rw [hd] at hd2; cases hd2; exact hk1.2) hk1.2
          by_cases hdt : d = t
          · subst hdt
            simp only [if_true] at this ⊢
            simp only [constr, Ne.symm hk1.1, if_false]
            exact this
          · simp only [Option.some.injEq, hdt, if_false] at this ⊢
            simp only [constr]
            rw [this]
    have putA : ∀ c : Value, (a.put o.dst c).tmps.size = N ∧ (a.put o.dst c).defers = D := fun c => by
      cases o.dst with
      | none => exact ⟨hN, hD⟩
      | some d => exact ⟨by simp [Act.put, hN], by simp [Act.put, hD]⟩
    rcases h with ⟨hw, h⟩ | ⟨hw, h⟩
    · refine fin (fun v _ => v = undef) Γ (a.put o.dst undef) (putA _).1 (putA _).2 hnd hkeys' (putC undef) (fun v w w' _ h => h) (fun a' w hR hD' hN' hc => ?_) h
      have e := same a' w hN' hc
      have := wanted_agree (ops := ops) (o := o) (by rw [fill_size, hN, hN']) e
      rw [hw _] at this
      simp [← this]
    · rcases h with ⟨c, hg, h⟩ | ⟨d, F, hd, hst, hg, h⟩
      · refine fin (fun v _ => v = c) Γ (a.put o.dst c) (putA _).1 (putA _).2 hnd hkeys' (putC c) (fun v w w' _ h => h) (fun a' w hR hD' hN' hc => ?_) h
        have e := same a' w hN' hc
        have hw' := wanted_agree (ops := ops) (o := o) (by rw [fill_size, hN, hN']) e
        rw [hw _] at hw'
        rw [if_pos hw'.symm]
        exact rel_agree (eval_agree hs e) (hg _ w hR (facts_of Γ hnd hc))
      · refine fin F ((d, F) :: Γ) a hN hD (by simpa using ⟨by simpa using hnokey d hd, hnd⟩) (fun d' hd' => ?_) (fun t => ?_) hst (fun a' w hR hD' hN' hc => ?_) h
        · simp only [List.map_cons, List.mem_cons] at hd'
          rcases hd' with rfl | hd'
          · exact ⟨hdN d' hd, k, o, by omega, hok, hd⟩
          · exact hkeys' d' hd'
        · simp [constr, hd]
        · have e := same a' w hN' hc
          have hw' := wanted_agree (ops := ops) (o := o) (by rw [fill_size, hN, hN']) e
          rw [hw _] at hw'
          rw [if_pos hw'.symm]
          exact rel_agree (eval_agree hs e) (hg _ w hR (facts_of Γ hnd hc))

/-- What holds at whatever point of whatever order. -/
structure Inv (md : Region.Mode) (ops : Array Oper) (R : World → World → Prop) (w0 : World) (F : Nat → Fact) (a0 : Act) (n N : Nat) (listed : Array Bool) (a : Act) (w : World) : Prop where
  head : HeadInv md ops n listed
  step : R w0 w
  size : a.tmps.size = N
  defers : a.defers = a0.defers
  done : ∀ i oi t, i < n → ops[i]? = some oi → oi.dst = some t → listed.getD i false = true → F i (a.tmps.getD t undef) w
  old : ∀ t, (∀ i oi, i < n → ops[i]? = some oi → oi.dst = some t → listed.getD i false = false) → a.tmps.getD t undef = a0.tmps.getD t undef

section
variable {md : Region.Mode} {F : Nat → Fact} {a0 : Act} {n N : Nat} (htr : ∀ a b c, R a b → R b c → R a c)
variable (hpair : Region.pairB md ops = true) (hdst : Region.dstB ops n N = true)
variable (hO : ∀ j oj, j < n → ops[j]? = some oj → Obl P ops R w0 N a0.defers (Cat ops F (fun t v _ => v = a0.tmps.getD t undef) j) oj (F j))
include htr hpair hdst hO

omit htr hdst hO in
theorem Inv.looks {listed : Array Bool} {a : Act} {w : World} (inv : Inv md ops R w0 F a0 n N listed a w) {j : Nat} {oj : Oper} (hjn : j < n) (hj : ops[j]? = some oj) (hr : j ∈ Region.ready md ops listed) :
    ∀ t ∈ oj.looksAt ops, Cat ops F (fun t v _ => v = a0.tmps.getD t undef) j t (a.tmps.getD t undef) w := by
  intro t ht
  obtain ⟨hun, o', ho', hall⟩ := mem_ready.1 hr
  rw [hj] at ho'
  obtain rfl := Option.some.inj ho'
  rcases cat_cases (ops := ops) F (fun t v _ => v = a0.tmps.getD t undef) j t with ⟨i, oi, hi, hoi, hd, hF, _⟩ | ⟨hno, hC⟩
  · rw [hF]
    refine inv.done i oi t (by omega) hoi hd ?_
    rcases pair_spec hpair hi hoi hj with ⟨e, he, hb, hon⟩ | hap
    · rw [← hon]; exact hall e he hb
    · exact absurd ht ((Oper.apart_spec hap).1 t hd)
  · rw [hC]
    refine inv.old t fun i oi hin hoi hd => ?_
    by_cases hij : i < j
    · exact absurd hd (hno i oi hij hoi)
    · by_cases hje : i = j
      · subst hje; exact getD_both hun
      · cases hl : listed.getD i false with
        | false => rfl
        | true =>
          rcases pair_spec hpair (show j < i by omega) hj hoi with ⟨e, he, hb, hon⟩ | hap
          · have := inv.head.closed i oi hoi hl e he hb
            rw [hon, getD_both hun] at this
            cases this
          · exact absurd ht ((Oper.apart_spec hap).2.2 t hd)

omit hpair hO in
theorem Inv.put {listed : Array Bool} {a : Act} {w w' : World} (hO : ∀ j oj, j < n → ops[j]? = some oj → Stable R (F j)) (inv : Inv md ops R w0 F a0 n N listed a w) {j : Nat} {oj : Oper} (hjn : j < n) (hj : ops[j]? = some oj) (hr : j ∈ Region.ready md ops listed)
    {v : Value} (hR : R w w') (hv : F j v w') : Inv md ops R w0 F a0 n N (listed.setIfInBounds j true) (a.put oj.dst v) w' := by
  have hjs : j < ops.size := (Array.getElem?_eq_some_iff.1 hj).1
  have hls : j < listed.size := by rw [inv.head.size]; exact hjs
  obtain ⟨hdN, _, hun⟩ := dst_spec hdst hjn hj
  have uniq : ∀ i oi t, i < n → ops[i]? = some oi → oi.dst = some t → oj.dst = some t → i = j := by
    intro i oi t hin hoi hd hd'
    rcases Nat.lt_trichotomy i j with h | h | h
    · exact absurd hd' (hun i oi t h hoi hd)
    · exact h
    · exact absurd hd ((dst_spec hdst hin hoi).2.2 j oj t h hj hd')
  refine ⟨inv.head.set hr hjn, htr _ _ _ inv.step hR, ?_, ?_, ?_, ?_⟩
  · cases oj.dst <;> simp [Act.put, inv.size]
  · cases oj.dst <;> simp [Act.put, inv.defers]
  · intro i oi t hin hoi hd hl
    by_cases hij : i = j
    · subst hij
      rw [hj] at hoi
      obtain rfl := Option.some.inj hoi
      rw [hd, put_getD]
      rw [if_pos ⟨rfl, by rw [inv.size]; exact hdN t hd⟩]
      exact hv
    · rw [getD_set_ne false (Ne.symm hij)] at hl
      have h1 := hO i oi hin hoi _ _ _ hR (inv.done i oi t hin hoi hd hl)
      cases hdj : oj.dst with
      | none => exact h1
      | some d =>
        rw [put_getD]
        have : d ≠ t := fun h => hij (uniq i oi t hin hoi hd (by rw [hdj, h]))
        simpa [this] using h1
  · intro t ht
    have hne : oj.dst ≠ some t := fun hd => by
      have := ht j oj hjn hj hd
      simp [hls] at this
    have h1 := inv.old t fun i oi hin hoi hd => by
      have := ht i oi hin hoi hd
      by_cases hij : i = j
      · subst hij
        rw [hj] at hoi
        obtain rfl := Option.some.inj hoi
        exact absurd hd hne
      · rwa [getD_set_ne false (Ne.symm hij)] at this
    cases hdj : oj.dst with
    | none => exact h1
    | some d =>
      rw [put_getD]
      have : d ≠ t := fun h => hne (by rw [hdj, h])
      simpa [this] using h1

theorem Inv.wpOp {listed : Array Bool} {a : Act} {w : World} (inv : Inv md ops R w0 F a0 n N listed a w) {j : Nat} {oj : Oper} (hjn : j < n) (hj : ops[j]? = some oj) (hr : j ∈ Region.ready md ops listed)
    {K : Act → World → Prop} {Q' : Exit → Act → World → Prop} (hR : ∀ w, R w w) (hK : ∀ a' w', Inv md ops R w0 F a0 n N (listed.setIfInBounds j true) a' w' → K a' w') : wpOp P ops Q' j K a w := by
  obtain ⟨hst, hob⟩ := hO j oj hjn hj
  have h1 := hob a w inv.step inv.defers inv.size (Inv.looks hpair inv hjn hj hr)
  have hst' : ∀ j oj, j < n → ops[j]? = some oj → Stable R (F j) := fun j oj h h' => (hO j oj h h').1
  unfold Go.wpOp
  simp only [hj]
  split
  · rename_i hw
    rw [if_pos hw] at h1
    exact .inl (wp_of_rel h1 fun v w' ⟨h2, h3⟩ => hK _ _ (Inv.put htr hdst hst' inv hjn hj hr h2 h3))
  · rename_i hw
    rw [if_neg hw] at h1
    exact hK _ _ (Inv.put htr hdst hst' inv hjn hj hr (hR w) h1)
end

theorem count_step {listed : Array Bool} {j : Nat} (hj : listed.getD j true = false) (m : Nat) (h : (listed.toList.filter (!·)).length ≤ m + 1) : ((listed.setIfInBounds j true).toList.filter (!·)).length ≤ m := by
  have hlt : j < listed.size := by
    rcases Nat.lt_or_ge j listed.size with h' | h'
    · exact h'
    · simp [Array.getElem?_eq_none h'] at hj
  have hj' : listed[j] = false := by simpa [hlt] using hj
  have h1 : (listed.setIfInBounds j true).toList = listed.toList.take j ++ true :: listed.toList.drop (j + 1) := by
    simp [List.set_eq_take_append_cons_drop, hlt]
  have h2 : listed.toList = listed.toList.take j ++ false :: listed.toList.drop (j + 1) := by
    have e : listed.toList[j]'(by simpa using hlt) = false := by simpa using hj'
    have := List.take_append_drop j listed.toList
    rw [List.drop_eq_getElem_cons (by simpa using hlt), e] at this
    exact this.symm
  rw [h1]
  rw [h2] at h
  simp only [List.filter_append, List.filter_cons, List.length_append] at h ⊢
  simp only [Bool.not_true, Bool.not_false] at h ⊢
  simp only [if_true, List.length_cons] at h
  simp
  omega

theorem count_step' {listed : Array Bool} {j : Nat} (hj : listed.getD j true = false) (m : Nat) (h : (listed.toList.filter (!·)).length = m + 1) : ((listed.setIfInBounds j true).toList.filter (!·)).length = m := by
  have hlt : j < listed.size := by
    rcases Nat.lt_or_ge j listed.size with h' | h'
    · exact h'
    · simp [Array.getElem?_eq_none h'] at hj
  have hj' : listed[j] = false := by simpa [hlt] using hj
  have h1 : (listed.setIfInBounds j true).toList = listed.toList.take j ++ true :: listed.toList.drop (j + 1) := by
    simp [List.set_eq_take_append_cons_drop, hlt]
  have h2 : listed.toList = listed.toList.take j ++ false :: listed.toList.drop (j + 1) := by
    have e : listed.toList[j]'(by simpa using hlt) = false := by simpa using hj'
    have := List.take_append_drop j listed.toList
    rw [List.drop_eq_getElem_cons (by simpa using hlt), e] at this
    exact this.symm
  rw [h1]
  rw [h2] at h
  simp only [List.filter_append, List.filter_cons, List.length_append] at h ⊢
  simp only [Bool.not_true, Bool.not_false] at h ⊢
  simp only [if_true, List.length_cons] at h
  simp
  omega

theorem ready_nil_all {md : Region.Mode} {listed : Array Bool} (hback : Region.backB md ops = true) (hs : listed.size = ops.size) (hr : Region.ready md ops listed = []) : ∀ j, j < ops.size → listed.getD j false = true := by
  intro j
  induction j using Nat.strongRecOn with
  | _ j ih =>
    intro hj
    cases hl : listed.getD j false with
    | true => rfl
    | false =>
      have : j ∈ Region.ready md ops listed := mem_ready.2 ⟨getD_in (by rw [hs]; exact hj) hl, ops[j], by simp [hj], fun e he hb => by
        have hlt := back_spec hback (show ops[j]? = some ops[j] by simp [hj]) he hb
        exact ih e.on hlt (by omega)⟩
      rw [hr] at this
      cases this

/-- The order runs to its end, no tail. -/
theorem wpAny_of_inv {md : Region.Mode} {F : Nat → Fact} {a0 : Act} {N : Nat} {Q' : Exit → Act → World → Prop} (hrf : ∀ w, R w w) (htr : ∀ a b c, R a b → R b c → R a c)
    (hpair : Region.pairB md ops = true) (hback : Region.backB md ops = true) (hdst : Region.dstB ops ops.size N = true)
    (hO : ∀ j oj, j < ops.size → ops[j]? = some oj → Obl P ops R w0 N a0.defers (Cat ops F (fun t v _ => v = a0.tmps.getD t undef) j) oj (F j))
    (hQ : ∀ a' w, R w0 w → a'.tmps.size = N → a'.defers = a0.defers → (∀ t, t < N → Cat ops F (fun t v _ => v = a0.tmps.getD t undef) ops.size t (a'.tmps.getD t undef) w) → Q' .normal a' w) :
    ∀ (fuel : Nat) (listed : Array Bool) (a : Act) (w : World), (listed.toList.filter (!·)).length ≤ fuel → Inv md ops R w0 F a0 ops.size N listed a w → wpAny P md ops Q' fuel listed a w := by
  have fin : ∀ (listed : Array Bool) (a : Act) (w : World), Inv md ops R w0 F a0 ops.size N listed a w → Region.ready md ops listed = [] → Q' .normal a w := by
    intro listed a w inv hr
    have hall := ready_nil_all hback inv.head.size hr
    refine hQ a w inv.step inv.size inv.defers fun t _ => ?_
    rcases cat_cases (ops := ops) F (fun t v _ => v = a0.tmps.getD t undef) ops.size t with ⟨i, oi, hi, hoi, hd, hF, _⟩ | ⟨hno, hC⟩
    · rw [hF]; exact inv.done i oi t hi hoi hd (hall i hi)
    · rw [hC]; exact inv.old t fun i oi hi hoi hd => absurd hd (hno i oi hi hoi)
  intro fuel
  induction fuel with
  | zero =>
    intro listed a w hc inv
    have hr : Region.ready md ops listed = [] := by
      cases hrr : Region.ready md ops listed with
      | nil => rfl
      | cons x xs =>
        have hx : x ∈ Region.ready md ops listed := by rw [hrr]; simp
        have hun := (mem_ready.1 hx).1
        have hlt : x < listed.size := by
          rcases Nat.lt_or_ge x listed.size with h' | h'
          · exact h'
          · simp [Array.getElem?_eq_none h'] at hun
        have : false ∈ listed.toList := by
          have h2 : listed[x] = false := by simpa [hlt] using hun
          rw [← h2]; simp
        have : false ∈ listed.toList.filter (!·) := List.mem_filter.2 ⟨this, rfl⟩
        have := List.length_pos_of_mem this
        omega
    exact ⟨hr, fin listed a w inv hr⟩
  | succ fuel ih =>
    intro listed a w hc inv
    refine ⟨fin listed a w inv, fun j hj => ?_⟩
    obtain ⟨hun, oj, hoj, _⟩ := mem_ready.1 hj
    have hjs : j < ops.size := (Array.getElem?_eq_some_iff.1 hoj).1
    exact Inv.wpOp htr hpair hdst hO inv hjs hoj hj hrf fun a' w' inv' => ih _ a' w' (count_step hun fuel hc) inv'

theorem inv_start {md : Region.Mode} {F : Nat → Fact} {a0 : Act} {n N : Nat} (hrf : ∀ w, R w w) (hN0 : a0.tmps.size = N) : Inv md ops R w0 F a0 n N (Array.replicate ops.size false) a0 w0 where
  head := ⟨by simp, fun j oj _ hl => (by rw [getD_replicate_false] at hl; cases hl), fun t _ ht => getD_in (by simpa using ht) (getD_replicate_false _ _)⟩
  step := hrf _
  size := hN0
  defers := rfl
  done := fun i oi t _ _ _ hl => (by rw [getD_replicate_false] at hl; cases hl)
  old := fun _ _ => rfl

/-- **ONE WALK IN THE ORDER OF THE TEXT SERVES EVERY ORDER.** -/
theorem wp_region_rel {id : Nat} {Q : Exit → Act → World → Prop} {a : Act} {w : World} {l : List Oper} (N : Nat) (R : World → World → Prop) (hrf : ∀ w, R w w) (htr : ∀ a b c, R a b → R b c → R a c)
    (hm : P.follows .mixedOrders = true) (hN : a.tmps.size = N) (hB : Region.relB .any l.toArray l.length N = true)
    (h : wpRel P l.toArray R w.drew (fun a' w' => Q .normal a' w') [] l a) : (Code.region id l.toArray true).wp P Q a w := by
  simp only [Region.relB, Bool.and_eq_true] at hB
  obtain ⟨⟨⟨hsel, hpair⟩, hback⟩, hdst⟩ := hB
  obtain ⟨F, _, hO, hQ⟩ := chain_of (P := P) (R := R) (w0 := w.drew) (D := a.defers) (n := l.length) hsel hdst l 0 [] a (fun _ _ _ => True) (fun t v _ => v = a.tmps.getD t undef) (by simp) (by simp) hN rfl (by simp) (by simp) (fun t => by simp [Cat, constr]) h
  refine wp_region_any hm ?_
  refine wpAny_of_inv (R := R) (w0 := w.drew) (F := F) (a0 := a) (N := N) hrf htr hpair hback (by simpa using hdst) (fun j oj hj hoj => hO j oj (Nat.zero_le _) (by simpa using hj) hoj) (fun a' w' h1 h2 h3 h4 => hQ a' w' h1 h2 h3 (by simpa using h4)) _ _ _ _ ?_ (inv_start hrf hN)
  refine Nat.le_trans (List.length_filter_le _ _) ?_
  simp

/-- The head in whatever order, then the tail. -/
theorem wpAny_of_inv_tail {md : Region.Mode} {F : Nat → Fact} {a0 : Act} {n N : Nat} {Q' : Exit → Act → World → Prop} (hrf : ∀ w, R w w) (htr : ∀ a b c, R a b → R b c → R a c)
    (hpair : Region.pairB md ops = true) (hback : Region.backB md ops = true) (hdst : Region.dstB ops n N = true)
    (hn : n < ops.size) (hsink : Region.sinkB md ops n = true) (hchain : Region.chainB md ops n = true)
    (hO : ∀ j oj, j < n → ops[j]? = some oj → Obl P ops R w0 N a0.defers (Cat ops F (fun t v _ => v = a0.tmps.getD t undef) j) oj (F j)) (g : Nat)
    (hQ : ∀ listed a' w, R w0 w → a'.tmps.size = N → a'.defers = a0.defers → (∀ t, t < N → Cat ops F (fun t v _ => v = a0.tmps.getD t undef) n t (a'.tmps.getD t undef) w) →
      listed.size = ops.size → (∀ j, j < ops.size → listed.getD j false = decide (j < n)) → wpAny P md ops Q' g listed a' w) :
    ∀ (fuel : Nat) (listed : Array Bool) (a : Act) (w : World), (listed.toList.filter (!·)).length = fuel + (ops.size - n) → Inv md ops R w0 F a0 n N listed a w → wpAny P md ops Q' (fuel + g) listed a w := by
  intro fuel
  induction fuel with
  | zero =>
    intro listed a w hc inv
    rw [Nat.zero_add] at hc ⊢
    have hall : ∀ j, j < n → listed.getD j false = true := by
      intro j hj
      cases hl : listed.getD j false with
      | true => rfl
      | false =>
        -- then more than 'ops.size - n' are not listed
        have hls := inv.head.size
        have htail : (listed.toList.drop n).filter (!·) = listed.toList.drop n := by
          rw [List.filter_eq_self]
          intro x hx
          obtain ⟨k, hk, rfl⟩ := List.mem_iff_getElem.1 hx
          simp only [List.length_drop, Array.length_toList] at hk
          have := inv.head.tail (n + k) (by omega) (by omega)
          have hlt : n + k < listed.size := by omega
          simp only [Array.getD, hlt, dif_pos] at this
          simpa using this
        have hhead : 0 < ((listed.toList.take n).filter (!·)).length := by
          apply List.length_pos_of_mem (a := false)
          refine List.mem_filter.2 ⟨?_, rfl⟩
          have hlt : j < listed.size := by omega
          have hf : listed[j] = false := by simpa [hlt] using hl
          have : (listed.toList.take n)[j]'(by simp; omega) = false := by simpa using hf
          rw [← this]
          exact List.getElem_mem _
        have h2 : listed.toList.filter (!·) = (listed.toList.take n).filter (!·) ++ (listed.toList.drop n).filter (!·) := by
          rw [← List.filter_append, List.take_append_drop]
        have hlen : (listed.toList.drop n).length = ops.size - n := by simp [hls]
        rw [h2, htail, List.length_append, hlen] at hc
        omega
    refine hQ listed a w inv.step inv.size inv.defers (fun t _ => ?_) inv.head.size fun j hj => ?_
    · rcases cat_cases (ops := ops) F (fun t v _ => v = a0.tmps.getD t undef) n t with ⟨i, oi, hi, hoi, hd, hF, _⟩ | ⟨hno, hC⟩
      · rw [hF]; exact inv.done i oi t hi hoi hd (hall i hi)
      · rw [hC]; exact inv.old t fun i oi hi hoi hd => absurd hd (hno i oi hi hoi)
    · by_cases hjn : j < n
      · simp [hall j hjn, hjn]
      · have := getD_both (inv.head.tail j (by omega) hj)
        simp [this, hjn]
  | succ fuel ih =>
    intro listed a w hc inv
    rw [show fuel + 1 + g = (fuel + g) + 1 by omega]
    -- some head operation is not listed
    have hex : ∃ j, j < n ∧ listed.getD j false = false := by
      refine Classical.byContradiction fun hno => ?_
      have hall : ∀ j, j < n → listed.getD j false = true := fun j hj => by
        cases hl : listed.getD j false with
        | true => rfl
        | false => exact absurd ⟨j, hj, hl⟩ hno
      have hls := inv.head.size
      have hhead : (listed.toList.take n).filter (!·) = [] := by
        rw [List.filter_eq_nil_iff]
        intro x hx
        obtain ⟨k, hk, rfl⟩ := List.mem_iff_getElem.1 hx
        simp only [List.length_take, Array.length_toList] at hk
        have := hall k (by omega)
        have hlt : k < listed.size := by omega
        simp only [Array.getD, hlt, dif_pos] at this
        simpa using this
      have h2 : listed.toList.filter (!·) = (listed.toList.take n).filter (!·) ++ (listed.toList.drop n).filter (!·) := by
        rw [← List.filter_append, List.take_append_drop]
      have h3 := List.length_filter_le (fun x : Bool => !x) (listed.toList.drop n)
      rw [h2, hhead] at hc
      simp only [List.nil_append, List.length_drop, Array.length_toList] at hc h3
      omega
    obtain ⟨j0, hj0, hl0⟩ := hex
    have hnotail : ∀ t, n ≤ t → t ∉ Region.ready md ops listed :=
      tail_waits hsink hchain hn inv.head (n - j0) j0 rfl hj0 (getD_in (by rw [inv.head.size]; omega) hl0)
    have hne : Region.ready md ops listed ≠ [] := fun hr => by
      have := ready_nil_all hback inv.head.size hr j0 (by omega)
      rw [hl0] at this
      cases this
    refine ⟨fun hr => absurd hr hne, fun j hj => ?_⟩
    obtain ⟨hun, oj, hoj, _⟩ := mem_ready.1 hj
    have hjn : j < n := by
      rcases Nat.lt_or_ge j n with h | h
      · exact h
      · exact absurd hj (hnotail j h)
    exact Inv.wpOp htr hpair hdst hO inv hjn hoj hj hrf fun a' w' inv' => ih _ a' w' (count_step' hun _ (by omega)) inv'

theorem wp_region_rel_tail {id : Nat} {Q : Exit → Act → World → Prop} {a : Act} {w : World} {l : List Oper} (n N : Nat) (R : World → World → Prop) (hrf : ∀ w, R w w) (htr : ∀ a b c, R a b → R b c → R a c)
    (hm : P.follows .mixedOrders = true) (hN : a.tmps.size = N) (hB : Region.relTailB .any l.toArray n N = true)
    (h : wpRel P l.toArray R w.drew (fun a' w' => wpList P l.toArray Q (l.drop n) a' w') [] (l.take n) a) : (Code.region id l.toArray true).wp P Q a w := by
  simp only [Region.relTailB, Region.relB, Bool.and_eq_true, decide_eq_true_eq] at hB
  obtain ⟨⟨⟨⟨⟨⟨⟨hsel, hpair⟩, hback⟩, hdst⟩, hn⟩, hsink⟩, hchain⟩, hseq⟩ := hB
  have hn' : n < l.length := by simpa using hn
  have htl : (l.take n).length = n := by simp; omega
  have hdl : (l.drop n).length = l.toArray.size - n := by simp
  obtain ⟨F, _, hO, hQ⟩ := chain_of (P := P) (R := R) (w0 := w.drew) (D := a.defers) (n := n) hsel hdst (l.take n) 0 [] a (fun _ _ _ => True) (fun t v _ => v = a.tmps.getD t undef) (by simpa using htl) (fun j hj => by rw [htl] at hj; simp [hj]) hN rfl (by simp) (by simp) (fun t => by simp [Cat, constr]) h
  refine wp_region_any hm ?_
  have := wpAny_of_inv_tail (P := P) (R := R) (w0 := w.drew) (F := F) (a0 := a) (n := n) (N := N) (Q' := Q) hrf htr hpair hback hdst hn hsink hchain (fun j oj hj hoj => hO j oj (Nat.zero_le _) hj hoj) (l.toArray.size - n)
    (fun listed a' w' h1 h2 h3 h4 h5 h6 => by
      have e : listed = Array.replicate n true ++ Array.replicate (l.toArray.size - n) false := by
        refine Array.ext (by simp [h5]; omega) fun i hi hi' => ?_
        have := h6 i (by omega)
        simp only [Array.getD, hi, dif_pos] at this
        rw [Array.getElem_append]
        by_cases hin : i < n
        · simp [hin] at this ⊢
          exact this
        · simp [hin] at this ⊢
          exact this
      rw [e, ← hdl]
      exact wpAny_of_seq (md := .any) (Q' := Q) (l.drop n) n _ a' w' (fun j => by simp [List.getElem?_drop]) (by rw [hdl]; exact hseq) (hQ a' w' h1 h2 h3 h4)) n (Array.replicate l.toArray.size false) a w.drew (by simp; omega) (inv_start hrf hN)
  rwa [show n + (l.toArray.size - n) = l.toArray.size by omega] at this

/-! ### The worlds: a call makes blocks, no more -/

/-- Nothing that is there turns. -/
def Ext (w w' : World) : Prop := Below w.heap.size w w'
theorem Ext.refl (w : World) : Ext w w := Below.refl _ _
theorem Ext.trans (a b c : World) (h : Ext a b) (k : Ext b c) : Ext a c := Below.trans h (Below.mono k h.size)
theorem Ext.drew (w : World) : Ext w w.drew := (Below.refl _ _).drew
theorem Ext.alloc (w : World) (o : Obj) : Ext w (w.alloc o) := (Below.refl _ _).alloc (Nat.le_refl _) _
theorem Ext.setCell' {w w1 : World} (h : Ext w w1) {p : Addr} (hp : w.heap.size ≤ p.block) (v : Value) : Ext w (w1.setCell p v) := Below.setCell h hp v
theorem Ext.alloc' {w w1 : World} (h : Ext w w1) (o : Obj) : Ext w (w1.alloc o) := Below.alloc h h.size o
theorem Ext.drew' {w w1 : World} (h : Ext w w1) : Ext w w1.drew := Below.drew h
theorem Ext.drewN' {w w1 : World} (h : Ext w w1) (n : Nat) : Ext w (w1.drewN n) := Below.trans h ⟨rfl, rfl, rfl, Nat.le_refl _, fun _ _ => rfl⟩
theorem Ext.cell {w w' : World} (h : Ext w w') (b o : Nat) (hb : b < w.heap.size) : w'.cell? ⟨b, o, none⟩ = w.cell? ⟨b, o, none⟩ := Below.cell (p := ⟨b, o, none⟩) h hb
/-- Block b holds these cells, and may be written. -/
def Box (w : World) (b : Nat) (cs : List Value) : Prop := b < w.heap.size ∧ (∀ i (h : i < cs.length), w.cell? ⟨b, i, none⟩ = some cs[i]) ∧ ∀ i, w.frozen? ⟨b, i, none⟩ = false
theorem Box.one {w : World} {b : Nat} {x : Value} (h : Box w b [x]) : b < w.heap.size ∧ w.cell? ⟨b, 0, none⟩ = some x ∧ ∀ i, w.frozen? ⟨b, i, none⟩ = false := ⟨h.1, h.2.1 0 (by simp), h.2.2⟩
theorem Box.two {w : World} {b : Nat} {x y : Value} (h : Box w b [x, y]) : b < w.heap.size ∧ w.cell? ⟨b, 0, none⟩ = some x ∧ w.cell? ⟨b, 1, none⟩ = some y ∧ ∀ i, w.frozen? ⟨b, i, none⟩ = false :=
  ⟨h.1, h.2.1 0 (by simp), h.2.1 1 (by simp), h.2.2⟩
theorem Box.ext {w w' : World} {b : Nat} {cs : List Value} (h : Box w b cs) (k : Ext w w') : Box w' b cs :=
  ⟨Nat.lt_of_lt_of_le h.1 k.size, fun i hi => by rw [Below.cell (p := ⟨b, i, none⟩) k h.1]; exact h.2.1 i hi, fun i => by rw [Below.frozen (p := ⟨b, i, none⟩) k h.1]; exact h.2.2 i⟩
theorem Box.alloc (w : World) (cs : List Value) (t : TypeId) : Box (w.alloc (.cells cs.toArray t)) w.heap.size cs := by
  refine ⟨by simp, fun i hi => ?_, fun i => ?_⟩
  · rw [World.cell?_alloc_at _ _ _ _ rfl]; simp [hi]
  · exact World.frozen?_alloc_at _ _ _ _ rfl
theorem Box.alloc' (w : World) (cs : List Value) (t : TypeId) (n : Nat) (hn : n = w.heap.size) : Box (w.alloc (.cells cs.toArray t)) n cs := by subst hn; exact Box.alloc w cs t
theorem Box.set {w : World} {b : Nat} {cs : List Value} (h : Box w b cs) (i : Nat) (v : Value) : Box (w.setCell ⟨b, i, none⟩ v) b (cs.set i v) := by
  obtain ⟨h1, h2, h3⟩ := h
  refine ⟨by simpa [World.setCell] using h1, fun j hj => ?_, fun j => ?_⟩
  · have h4 := h2 j (by simpa using hj)
    have h5 := h3 j
    simp only [World.cell?, World.setCell, Array.getElem?_modify, if_true] at h4 ⊢
    cases ho : w.heap[b]? with
    | none => simp [ho] at h4
    | some o =>
      simp only [ho, Option.map_some] at h4 ⊢
      cases o <;> simp at h4 ⊢
      rename_i c t f
      by_cases hij : i = j
      · subst hij
        have : i < c.size := by
          rcases Nat.lt_or_ge i c.size with h | h
          · exact h
          · simp [h] at h4
        simp [this]
      · rw [Array.getElem?_setIfInBounds_ne hij, h4]
        simp [List.getElem_set, hij]
  · have h5 := h3 j
    simp only [World.frozen?, World.setCell, Array.getElem?_modify, if_true] at h5 ⊢
    cases ho : w.heap[b]? with
    | none => simp
    | some o =>
      simp only [ho, Option.map_some] at h5 ⊢
      cases o <;> simp at h5 ⊢
      exact h5
theorem Box.far {w : World} {b : Nat} {cs : List Value} (h : Box w b cs) {p : Addr} (hp : p.block ≠ b) (v : Value) : Box (w.setCell p v) b cs := by
  obtain ⟨h1, h2, h3⟩ := h
  have e : (w.setCell p v).heap[b]? = w.heap[b]? := Below.heap_setCell _ _ _ _ (Ne.symm hp)
  exact ⟨by simpa [World.setCell] using h1, fun i hi => by rw [World.cell?_of_block (w := w) e]; exact h2 i hi, fun i => by rw [World.frozen?_of_block (w := w) e]; exact h3 i⟩
theorem Box.drew {w : World} {b : Nat} {cs : List Value} (h : Box w b cs) : Box w.drew b cs := h
theorem Ext.free {w w' : World} (h : Ext w w') (b o : Nat) (hb : b < w.heap.size) : w'.frozen? ⟨b, o, none⟩ = w.frozen? ⟨b, o, none⟩ := Below.frozen (p := ⟨b, o, none⟩) h hb
/-- A pointer to a block that is new since B. -/
def NewPtr (B : Nat) (cs : List Value) : Fact := fun v w => ∃ b, v = .pointer (some ⟨b, 0, none⟩) ∧ B ≤ b ∧ Box w b cs
theorem NewPtr.stable (B : Nat) (cs : List Value) : Stable Ext (NewPtr B cs) := fun _ _ _ h ⟨b, hv, hB, hb⟩ => ⟨b, hv, hB, hb.ext h⟩
theorem NewPtr.alloc {B : Nat} (w : World) (cs : List Value) (t : TypeId) (hB : B ≤ w.heap.size) : Ext w (w.alloc (.cells cs.toArray t)) ∧ NewPtr B cs (.pointer (some ⟨w.heap.size, 0, none⟩)) (w.alloc (.cells cs.toArray t)) :=
  ⟨Ext.alloc _ _, _, rfl, hB, Box.alloc _ _ _⟩
theorem Box.set2 {w : World} {b : Nat} {u v : Value} (h : Box w b [u, v]) (x y : Value) : Box ((w.setCell ⟨b, 0, none⟩ x).setCell ⟨b, 1, none⟩ y) b [x, y] := (h.set 0 x).set 1 y
theorem Box.far2 {w : World} {b : Nat} {cs : List Value} (h : Box w b cs) (c : Nat) (hc : c ≠ b) (x y : Value) : Box ((w.setCell ⟨c, 0, none⟩ x).setCell ⟨c, 1, none⟩ y) b cs := (h.far hc x).far hc y
end
end Go.Proofs.Ytnalgofemikggaa
