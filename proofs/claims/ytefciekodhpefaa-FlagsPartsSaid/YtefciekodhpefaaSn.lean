/- What is shown of code is what it does: regions in the order of their text. -/
import Derived.Test.YtefciekodhpefaaSm
import Derived.RangeFuncIn
namespace Go.Proofs.Ytefciekodhpefaa
open Go.RowKit

/-- Activations of functions, or a round of a range over a function. -/
abbrev Fr (r : Option Nat) : Fence := { Fence.wide with round := r }

section
variable {P : Program} {w0 : World} {A0 : Nat → Prop} {β0 : List (Option Nat)} {M : Nat} {ks : List Nat} {w : World} {A : Nat → Prop} {β : List (Option Nat)} {H : List Blk}

theorem Cur.start (hW : WRel w A β H) (hA : ∀ b, A b → b < w.heap.size) : Cur w A β M ks w A β H :=
  ⟨hW, hA, Frm.refl _ _, fun _ _ => Iff.rfl, fun _ _ h _ => List.mem_of_getElem? h, fun _ _ _ => rfl, Nat.le_refl _⟩

theorem Cur.again (h : Cur w0 A0 β0 M ks w A β H) : Cur w A β M ks w A β H := Cur.start h.rel h.fin

theorem Cur.trans {w2 : World} {A2 : Nat → Prop} {β2 : List (Option Nat)} {H2 : List Blk} (h : Cur w0 A0 β0 M ks w A β H) (k : Cur w A β M ks w2 A2 β2 H2) : Cur w0 A0 β0 M ks w2 A2 β2 H2 := by
  refine ⟨k.rel, k.fin, h.frm.step k.frm h.fresh, fun b hb => (k.agree b (Nat.lt_of_lt_of_le hb h.frm.size)).trans (h.agree b hb), fun i b hi hb => ?_, fun i hi hn => ?_, Nat.le_trans h.more k.more⟩
  · obtain ⟨j, hj, he⟩ := List.getElem_of_mem (k.fresh i b hi (Nat.lt_of_lt_of_le hb h.frm.size))
    exact h.fresh j b (by simp [hj, he]) hb
  · rw [k.same i (Nat.lt_of_lt_of_le hi h.more) hn]; exact h.same i hi hn

/-- The marks among the deferred calls: blocks for the deferred calls of rounds, none that has a name. -/
def Marks (w0 w : World) (A : Nat → Prop) (β : List (Option Nat)) (ds : List Deferred) : Prop :=
  ∃ rs : List Nat, rs.Nodup ∧ ds = rs.map (fun r => { target := .collected r, args := #[] }) ∧ ∀ r ∈ rs, w.heap[r]? = some (.deferred (some [])) ∧ some r ∉ β ∧ A r ∧ w0.heap.size ≤ r

theorem Marks.step {w2 : World} {A2 : Nat → Prop} {β2 : List (Option Nat)} {H2 : List Blk} {ds : List Deferred} (h : Marks w0 w A β ds) (k : Cur w A β M ks w2 A2 β2 H2) : Marks w0 w2 A2 β2 ds := by
  obtain ⟨rs, hn, hd, hr⟩ := h
  refine ⟨rs, hn, hd, fun r hm => ⟨?_, fun hin => ?_, (k.agree r (heap_lt (hr r hm).1)).2 (hr r hm).2.2.1, (hr r hm).2.2.2⟩⟩
  · rw [k.frm.keep r (heap_lt (hr r hm).1) (hr r hm).2.1]; exact (hr r hm).1
  · obtain ⟨j, hj, he⟩ := List.getElem_of_mem hin
    exact (hr r hm).2.1 (k.fresh j r (by simp [hj, he]) (heap_lt (hr r hm).1))

/-- What may not be written stays. -/
structure FrmB (B : Nat → Prop) (w w' : World) : Prop where
  os : w'.os = w.os
  tape : w'.tape = w.tape
  output : w'.output = w.output
  size : w.heap.size ≤ w'.heap.size
  keep : ∀ b, b < w.heap.size → ¬ B b → w'.heap[b]? = w.heap[b]?
  shp : ∀ (b : Nat) (cs : Array Value) (T : TypeId) (fr : Nat × Nat), w.heap[b]? = some (.cells cs T fr) → ∃ (cs' : Array Value) (fr' : Nat × Nat), w'.heap[b]? = some (.cells cs' T fr') ∧ cs'.size = cs.size

theorem FrmB.refl (B : Nat → Prop) (w : World) : FrmB B w w := ⟨rfl, rfl, rfl, Nat.le_refl _, fun _ _ _ => rfl, fun _ cs _ fr h => ⟨cs, fr, h, rfl⟩⟩
theorem FrmB.step {B C : Nat → Prop} {w0 w w' : World} (h : FrmB B w0 w) (k : FrmB C w w') (hf : ∀ b, b < w0.heap.size → C b → B b) : FrmB B w0 w' :=
  ⟨k.os.trans h.os, k.tape.trans h.tape, k.output.trans h.output, Nat.le_trans h.size k.size, fun b hb hn => (k.keep b (Nat.lt_of_lt_of_le hb h.size) fun hm => hn (hf b hb hm)).trans (h.keep b hb hn), fun b cs T fr hc => by
    obtain ⟨cs1, fr1, h1, e1⟩ := h.shp b cs T fr hc
    obtain ⟨cs2, fr2, h2, e2⟩ := k.shp b cs1 T fr1 h1
    exact ⟨cs2, fr2, h2, e2.trans e1⟩⟩
theorem Frm.b {β : List (Option Nat)} {w w' : World} (h : Frm β w w') : FrmB (fun b => some b ∈ β) w w' := ⟨h.os, h.tape, h.output, h.size, h.keep, h.shp⟩
theorem FrmB.frm {β : List (Option Nat)} {w w' : World} (h : FrmB (fun b => some b ∈ β) w w') : Frm β w w' := ⟨h.os, h.tape, h.output, h.size, h.keep, h.shp⟩

/-- 'Cur' where others may have written, too (B0: what, of the blocks that were there). -/
structure CurX (B0 : Nat → Prop) (w0 : World) (A0 : Nat → Prop) (β0 : List (Option Nat)) (M : Nat) (ks : List Nat) (w : World) (A : Nat → Prop) (β : List (Option Nat)) (H : List Blk) : Prop where
  rel : WRel w A β H
  fin : ∀ b, A b → b < w.heap.size
  frm : FrmB B0 w0 w
  agree : ∀ b, b < w0.heap.size → (A b ↔ A0 b)
  fresh : ∀ (k b : Nat), β[k]? = some (some b) → b < w0.heap.size → some b ∈ β0
  same : ∀ k, k < β0.length → ¬ (M ≤ k ∨ k ∈ ks) → β[k]? = β0[k]?
  more : β0.length ≤ β.length
  sub : ∀ b, some b ∈ β0 → B0 b

theorem Cur.x (h : Cur w0 A0 β0 M ks w A β H) : CurX (fun b => some b ∈ β0) w0 A0 β0 M ks w A β H := ⟨h.rel, h.fin, h.frm.b, h.agree, h.fresh, h.same, h.more, fun _ h => h⟩
theorem CurX.cur (h : CurX (fun b => some b ∈ β0) w0 A0 β0 M ks w A β H) : Cur w0 A0 β0 M ks w A β H := ⟨h.rel, h.fin, h.frm.frm, h.agree, h.fresh, h.same, h.more⟩
theorem CurX.again {B0 : Nat → Prop} (h : CurX B0 w0 A0 β0 M ks w A β H) : Cur w A β M ks w A β H := Cur.start h.rel h.fin
theorem CurX.trans {B0 : Nat → Prop} {w2 : World} {A2 : Nat → Prop} {β2 : List (Option Nat)} {H2 : List Blk} (h : CurX B0 w0 A0 β0 M ks w A β H) (k : Cur w A β M ks w2 A2 β2 H2) : CurX B0 w0 A0 β0 M ks w2 A2 β2 H2 := by
  refine ⟨k.rel, k.fin, h.frm.step k.frm.b fun b hb hm => ?_, fun b hb => (k.agree b (Nat.lt_of_lt_of_le hb h.frm.size)).trans (h.agree b hb), fun i b hi hb => ?_, fun i hi hn => ?_, Nat.le_trans h.more k.more, h.sub⟩
  · obtain ⟨j, hj, he⟩ := List.getElem_of_mem hm
    exact h.sub b (h.fresh j b (by simp [hj, he]) hb)
  · obtain ⟨j, hj, he⟩ := List.getElem_of_mem (k.fresh i b hi (Nat.lt_of_lt_of_le hb h.frm.size))
    exact h.fresh j b (by simp [hj, he]) hb
  · rw [k.same i (Nat.lt_of_lt_of_le hi h.more) hn]; exact h.same i hi hn

/-- What others know of the world, beside the walk; B0: which of the first blocks may be written at all. -/
structure Ysem where
  B0 : Nat → Prop
  X : Option Nat → World → (Nat → Prop) → List (Option Nat) → Prop

structure Yok (P : Program) (A0 : Nat → Prop) (y : Yv) (Y : Ysem) : Prop where
  stab : ∀ (g : Option Nat) (w : World) (A : Nat → Prop) (β : List (Option Nat)) (M : Nat) (ks : List Nat) (w2 : World) (A2 : Nat → Prop) (β2 : List (Option Nat)) (H2 : List Blk), Y.X g w A β → Cur w A β M ks w2 A2 β2 H2 → Y.X g w2 A2 β2
  names : ∀ (g : Option Nat) (w : World) (A : Nat → Prop) (β β2 : List (Option Nat)), (∀ b, A b → b < w.heap.size) → (∀ b, some b ∈ β2 → some b ∈ β ∧ A b) → Y.X g w A β → Y.X g w A β2
  wide : y.out = false → y.xs ≠ [] → ∀ b, A0 b → Y.B0 b
  yld : ∀ (i : Nat) (x : List SV) (us : List Value) (w : World) (A : Nat → Prop) (β : List (Option Nat)), y.xs[i]? = some x → Y.X (some i) w A β → (∀ b, A b → b < w.heap.size) → (∀ b, some b ∈ β → A b) → Reps w A [] x us →
    ∃ (fn : FuncId) (tmps : Array Value) (assign body : Code), (Instr.yield y.l us.toArray).run P w = .ok (.round y.l fn tmps assign body) w ∧
      RoundIn Fence.wide 0 P y.l fn tmps assign body w fun e W' => ∃ (b : Bool) (A' : Nat → Prop), e = .returned (.bool b) ∧ Y.X (if b then some (i + 1) else none) W' A' β ∧ RoundStep (fun b => some b ∈ β) A w A' W'

/-- All that is known at a place of the code. -/
structure Sta (w0 : World) (A0 : Nat → Prop) (β0 : List (Option Nat)) (M : Nat) (ks : List Nat) (N : Nat) (y : Yv) (Y : Ysem) (g : Option Nat) (e : Env) (H : List Blk) (a : Act) (w : World) (A : Nat → Prop) (β : List (Option Nat)) : Prop where
  cur : CurX Y.B0 w0 A0 β0 M ks w A β H
  env : EnvRel w A β e a.tmps
  size : a.tmps.size = N
  marks : Marks w0 w A β a.defers
  nodef : y.out = false → a.defers = []
  inv : Y.X g w A β

theorem wpIn_round {n : Nat} {r : Option Nat} {o : Oper} {a : Act} {w : World} {K : Act → World → Prop} {Q : Exit → Act → World → Prop} (hd : ∀ c, o.op ≠ .defer c) (h : o.wpIn Fence.wide n P a w K Q) : o.wpIn (Fr r) n P a w K Q := by
  refine ⟨fun _ _ => trivial, ?_⟩
  have h2 := h.2
  rw [Oper.semAt_eq _ _ _ hd] at h2 ⊢
  generalize (execOp a.eval o).run P w = x at *
  exact h2

theorem cop_defer {o : Oper} {i : IOp} (h : cop P o = some i) : ∀ c, o.op ≠ .defer c := fun c hc => by simp [cop, hc] at h

theorem cop_call {o : Oper} {f : Opd} {args : List Opd} (h : cop P o = some (.call f args)) : ∃ c f', o.op = .call c ∧ c.callee = .value f' ∧ f = cOpd f' ∧ args = c.args.toList.map cOpd := by
  cases hop : o.op with
  | call c =>
    simp only [cop, hop] at h
    split at h
    · rename_i f' hf'
      cases h
      exact ⟨c, f', rfl, hf', rfl, rfl⟩
    · cases h
    · split at h <;> (try split at h) <;> (try split at h) <;> (try split at h) <;> cases h
  | _ =>
    simp only [cop, hop] at h
    repeat' split at h
    all_goals first | (cases h; done) | (obtain ⟨_, _, h⟩ := Option.map_eq_some_iff.1 h; cases h; done) | (obtain ⟨_, _, h⟩ := Option.bind_eq_some_iff.1 h; split at h <;> cases h; done) | (split at h <;> cases h; done) | (exfalso; rename_i heq _ _ _; cases heq; done) | skip

theorem cIns_spec {ops : Array Oper} {N : Nat} {o : Oper} {i : Ins} (h : cIns P ops N o = some i) : cop P o = some i.op ∧ i.dst = o.dst ∧ (∀ d, o.dst = some d → d < N) ∧
    ((o.guard = none ∧ i.guard = none) ∨ ∃ j want t, o.guard = some (j, want) ∧ (ops[j]?).bind (·.dst) = some t ∧ t < N ∧ i.guard = some (t, want)) := by
  unfold cIns at h
  split at h
  · rename_i op g hop hg
    split at h
    · rename_i hok
      cases h
      refine ⟨hop, rfl, fun d hd => by simpa [hd] using hok, ?_⟩
      cases hgd : o.guard with
      | none => simp [hgd, guardOf] at hg; exact .inl ⟨rfl, hg.symm⟩
      | some p =>
        obtain ⟨j, want⟩ := p
        simp only [hgd, guardOf] at hg
        split at hg
        · rename_i t ht
          split at hg
          · rename_i hlt
            cases hg
            exact .inr ⟨j, want, t, rfl, ht, hlt, rfl⟩
          · cases hg
        · cases hg
    · cases h
  · cases h

/-- What a guard says. The slots are known as they were. -/
theorem guard_spec {ops : Array Oper} {N : Nat} {o : Oper} {i : Ins} (h : cIns P ops N o = some i) {e : Env} {run skip : Env → Prop} (hg : guardK e i.guard run skip) :
    (∃ e', run e' ∧ (∀ t, look e' t = look e t) ∧ ∀ (w : World) (A : Nat → Prop) (β : List (Option Nat)) (tmps : Array Value), tmps.size = N → (∀ t, i.guard.map (·.1) = some t → Rep w A β (look e t) (tmps.getD t undef)) → Region.wanted o (yielded ops tmps) = true) ∨
    (∃ e', skip e' ∧ (∀ t, look e' t = look e t) ∧ i.guard.isSome = true ∧ ∀ (w : World) (A : Nat → Prop) (β : List (Option Nat)) (tmps : Array Value), tmps.size = N → (∀ t, i.guard.map (·.1) = some t → Rep w A β (look e t) (tmps.getD t undef)) → Region.wanted o (yielded ops tmps) = false) := by
  obtain ⟨_, _, _, hgd⟩ := cIns_spec h
  rcases hgd with ⟨h1, h2⟩ | ⟨j, want, t, h1, h2, h3, h4⟩
  · simp only [h2, guardK] at hg
    exact .inl ⟨e, hg, fun _ => rfl, fun w A β tmps _ _ => by simp [Region.wanted, h1]⟩
  · simp only [h4, guardK] at hg
    have same : ∀ (b : Bool), look e t = .bool b → ∀ t', look ((t, .bool b) :: e) t' = look e t' := by
      intro b hb t'
      simp only [look]
      split
      · rename_i ht; subst ht; exact hb.symm
      · rfl
    -- the slot's truth
    have isb : ∀ (b : Bool), look e t = .bool b → ∀ (w : World) (A : Nat → Prop) (β : List (Option Nat)) (tmps : Array Value), tmps.size = N → (∀ t', i.guard.map (·.1) = some t' → Rep w A β (look e t') (tmps.getD t' undef)) →
        Region.wanted o (yielded ops tmps) = (b == want) := by
      intro b hb w A β tmps hsz hr
      have h5 := rep_bool (hb ▸ hr t (by simp [h4]))
      have : tmps[t]? = some (.bool b) := by
        have ht : t < tmps.size := by rw [hsz]; exact h3
        simp [Array.getD, ht] at h5
        simp [ht, h5]
      simp only [Region.wanted, h1, yielded, h2, Option.bind_some, this]
      cases b <;> cases want <;> rfl
    split at hg
    · rename_i b hb
      have hs := same b hb
      have hb' := isb b hb
      cases want with
      | true =>
        simp only at hg
        cases b with
        | true => exact .inl ⟨_, hg.t rfl, hs, fun w A β tmps hsz hr => by simpa using hb' w A β tmps hsz hr⟩
        | false => exact .inr ⟨_, hg.f rfl, hs, by simp [h4], fun w A β tmps hsz hr => by simpa using hb' w A β tmps hsz hr⟩
      | false =>
        simp only at hg
        cases b with
        | true => exact .inr ⟨_, hg.t rfl, hs, by simp [h4], fun w A β tmps hsz hr => by simpa using hb' w A β tmps hsz hr⟩
        | false => exact .inl ⟨_, hg.f rfl, hs, fun w A β tmps hsz hr => by simpa using hb' w A β tmps hsz hr⟩
    · rename_i hb
      refine .inr ⟨e, hg, fun _ => rfl, by simp [h4], fun w A β tmps hsz hr => ?_⟩
      have h5 := hb ▸ hr t (by simp [h4])
      generalize hv : tmps.getD t undef = v at h5
      cases h5 with
      | tup _ _ vs hl _ =>
        have : tmps[t]? = some (.tuple vs.toArray) := by
          have ht : t < tmps.size := by rw [hsz]; exact h3
          simp [Array.getD, ht] at hv
          simp [ht, hv]
        simp [Region.wanted, h1, yielded, h2, this]
    · exact hg.elim

theorem yldOf_spec {x : SV} {l : Nat} (h : yldOf x = some l) : x = .raw (.func (.yield l) #[] #[]) := by
  unfold yldOf at h
  split at h
  · rename_i l' a b
    split at h
    · rename_i ha hb
      cases h
      have e1 : a = #[] := by rw [← Array.toList_inj]; exact ha
      have e2 : b = #[] := by rw [← Array.toList_inj]; exact hb
      rw [e1, e2]
    · cases h
  · cases h

theorem roundIn_wide {r : Option Nat} {m l : Nat} {f : FuncId} {tmps : Array Value} {assign body : Code} {R : Ending → World → Prop} (h : RoundIn Fence.wide 0 P l f tmps assign body w R) : RoundIn (Fr r) m P l f tmps assign body w R :=
  ⟨trivial, fun c cs _ => h.2 c cs (room_wide _)⟩

/-- A call of yield. -/
theorem yld_wpIn {m : Nat} {r : Option Nat} {o : Oper} {f : Operand} {c : Call} {y : Yv} {Y : Ysem} {e : Env} {a : Act} {as : List SV} {i N : Nat} {K : Act → World → Prop} {Q : Exit → Act → World → Prop} (hY : Yok P A0 y Y) (hop : o.op = .call c) (hf : c.callee = .value f)
    (hyl : yldOf (ev e (cOpd f)) = some y.l) (has : as = c.args.toList.map fun x => ev e (cOpd x)) (hp : SV.pure.pureL as = true) (hout : y.out = false) (hx : y.xs[i]? = some as) (hS : Sta w0 A0 β0 M ks N y Y (some i) e H a w A β)
    (hK : ∀ (b : Bool) (w' : World) (A' : Nat → Prop), Sta w0 A0 β0 M ks N y Y (if b then some (i + 1) else none) e H a w' A' β → K (a.put o.dst (.bool b)) w') : o.wpIn (Fr r) m P a w K Q := by
  have hfr : a.eval f = .func (.yield y.l) #[] #[] := by
    have := ev_rep (w := w) (A := A) (β := β) (e := e) (a := a) f fun t _ => hS.env t
    rw [yldOf_spec hyl] at this
    generalize a.eval f = v at this
    cases this; rfl
  have hargs : Reps w A β as (c.args.toList.map a.eval) := by
    rw [has]
    have := map_reps c.args.toList fun x _ => ev_rep (e := e) (a := a) x fun t _ => hS.env t
    rwa [List.map_map] at this
  have hall := reps_purely hargs hp []
  obtain ⟨fn, tmps, assign, body, hrun, hround⟩ := hY.yld i as _ w A β hx hS.inv hS.cur.fin (fun b hb => by
    obtain ⟨k, hk, he⟩ := List.getElem_of_mem hb
    exact (hS.cur.rel.own k b (by simp [hk, he])).1) hall
  refine ⟨fun _ _ => trivial, ?_⟩
  rw [Oper.semAt_eq _ _ _ (by intro c' h; rw [hop] at h; cases h)]
  have hrun' : (execOp a.eval o).run P w = .ok (.round y.l fn tmps assign body) w := by
    simp only [execOp, hop, resolve, hf, hfr, Deferred.ofValue, Sem.run_bind, Sem.run_pure, Result.andThen_ok, invoke]
    have : (#[] ++ c.args.map a.eval) = (c.args.toList.map a.eval).toArray := by
      apply Array.ext'; simp
    rw [this]
    exact hrun
  rw [hrun', Oper.uponIn_round]
  refine ⟨fun h => by simp [Fence.wide] at h, (roundIn_wide hround).mono ?_⟩
  rintro e' W' ⟨b, A', rfl, hX, hr⟩
  have hdef := hS.nodef hout
  refine hK b W' A' ⟨⟨⟨hS.cur.rel.len, hS.cur.rel.inj, fun k c hk => ?_, fun k o' blk hk hbk => (hS.cur.rel.blk k o' blk hk hbk).keep hr.stp (fun b hb h => (hr.agree b hb).1 h) (fun _ _ h => h) fun b he => hr.bi b (he ▸ List.mem_of_getElem? hk)⟩, hr.fin, ?_, fun b hb => (hr.agree b (Nat.lt_of_lt_of_le hb hS.cur.frm.size)).trans (hS.cur.agree b hb), hS.cur.fresh, hS.cur.same, hS.cur.more, hS.cur.sub⟩, fun t => (hS.env t).mono hr.stp fun b hb h => (hr.agree b hb).1 h, hS.size, ?_, hS.nodef, hX⟩
  · obtain ⟨h1, h2⟩ := hS.cur.rel.own k c hk
    exact ⟨(hr.agree c h2).2 h1, Nat.lt_of_lt_of_le h2 hr.stp.size⟩
  · exact hS.cur.frm.step (C := A) ⟨hr.stp.os, hr.stp.tape, hr.stp.output, hr.stp.size, hr.stp.keep, hr.stp.shp⟩ fun b hb ha => hY.wide hout (fun h => by rw [h] at hx; simp at hx) b ((hS.cur.agree b hb).1 ha)
  · rw [hdef]; exact ⟨[], List.nodup_nil, rfl, fun r h => by simp at h⟩

/-- **OPERATIONS IN THE ORDER OF THE TEXT.** -/
theorem rvc_sound {m : Nat} {r : Option Nat} {ops : Array Oper} {N : Nat} {y : Yv} {Y : Ysem} (hY : Yok P A0 y Y) {Q : Exit → Act → World → Prop} : ∀ (os : List Oper) (is : List Ins), os.mapM (cIns P ops N) = some is → ∀ (e : Env) (H : List Blk) (g : Option Nat) (K : Env → List Blk → Option Nat → Prop) (a : Act) (w : World) (A : Nat → Prop) (β : List (Option Nat)),
    rvc P M ks y is e H g K → Sta w0 A0 β0 M ks N y Y g e H a w A β → (∀ e' H' g' a' w' A' β', K e' H' g' → Sta w0 A0 β0 M ks N y Y g' e' H' a' w' A' β' → Q .normal a' w') → wpListIn (Fr r) m P ops Q os a w
  | [], is, hm, e, H, g, K, a, w, A, β, h, hS, hQ => by
    simp at hm; subst hm
    exact hQ e H g a w A β h hS
  | o :: os, is, hm, e, H, g, K, a, w, A, β, h, hS, hQ => by
    simp only [List.mapM_cons, Option.bind_eq_bind, Option.pure_def] at hm
    obtain ⟨i, hi, hm⟩ := Option.bind_eq_some_iff.1 hm
    obtain ⟨is', his, hm⟩ := Option.bind_eq_some_iff.1 hm
    cases hm
    obtain ⟨hcop, hdst, hdN, _⟩ := cIns_spec hi
    simp only [rvc_cons_eq, fc_eq, fhi_eq] at h
    have hput : ∀ (a : Act) (v : Value), (a.put o.dst v).tmps.size = a.tmps.size ∧ (a.put o.dst v).defers = a.defers := fun a v => by cases o.dst <;> simp [Act.put]
    rcases guard_spec hi h with ⟨e', hrun, hlk, hw⟩ | ⟨e', hskip, hlk, _, hw⟩
    · have hwant := hw w A β a.tmps hS.size fun t _ => hS.env t
      have hr : ∀ t, Rep w A β (look e' t) (a.tmps.getD t undef) := fun t => by rw [hlk]; exact hS.env t
      unfold wpListIn
      rw [if_pos hwant]
      have henv : EnvRel w A β e' a.tmps := fun t => hr t
      unfold yop at hrun
      split at hrun
      · -- yield
        rename_i l as hy
        obtain ⟨hout, rfl, hp, j, rfl, hx, hT, hF⟩ := hrun
        unfold isYld at hy
        split at hy
        · rename_i f args hiop
          split at hy
          · rename_i l' hl'
            cases hy
            obtain ⟨c, f', hop, hf', hfo, hargs⟩ : ∃ c f', o.op = .call c ∧ c.callee = .value f' ∧ f = cOpd f' ∧ args = c.args.toList.map cOpd := by
              rw [hiop] at hcop
              exact cop_call hcop
            subst hfo
            refine yld_wpIn (A0 := A0) hY hop hf' hl' (as := args.map (ev e')) (by rw [hargs, List.map_map]; rfl) hp hout hx ⟨hS.cur, henv, hS.size, hS.marks, hS.nodef, hS.inv⟩ fun b w' A' hS' => ?_
            have fin : ∀ (gb : Option Nat), rvc P M ks y is' (setE e' i.dst (.bool b)) H gb K → Sta w0 A0 β0 M ks N y Y gb e' H a w' A' β → wpListIn (Fr r) m P ops Q os (a.put o.dst (.bool b)) w' := fun gb hk hS' =>
              rvc_sound hY os is' his _ _ gb K _ _ A' β hk ⟨hS'.cur, by rw [hdst]; exact hS'.env.put (fun t ht => by rw [hS'.size]; exact hdN t ht) (.bool _ _), by rw [(hput a _).1]; exact hS'.size, by rw [(hput a _).2]; exact hS'.marks, fun h => by rw [(hput a _).2]; exact hS'.nodef h, hS'.inv⟩ hQ
            cases b with
            | true => exact fin _ hT hS'
            | false => exact fin _ hF hS'
          · cases hy
        · cases hy
      · have hrel := xop_rel (P := P) (o := o) (w0 := w) (A0 := A) (β0 := β) hcop hrun hS.cur.again henv
        refine wpIn_round (cop_defer hcop) (wpIn_of_rel hrel fun v w' hT => ?_)
        obtain ⟨sv, e2, H2, A2, β2, hK, hcur2, henv2, hrep⟩ := hT
        refine rvc_sound hY os is' his _ _ g K _ _ A2 β2 hK ⟨hS.cur.trans hcur2, ?_, by rw [(hput a v).1]; exact hS.size, by rw [(hput a v).2]; exact hS.marks.step hcur2, fun h => by rw [(hput a v).2]; exact hS.nodef h, hY.stab _ _ _ _ _ _ _ _ _ _ hS.inv hcur2⟩ hQ
        rw [hdst]
        exact henv2.put (fun t ht => by rw [hS.size]; exact hdN t ht) hrep
    · have hwant := hw w A β a.tmps hS.size fun t _ => hS.env t
      have hr : ∀ t, Rep w A β (look e' t) (a.tmps.getD t undef) := fun t => by rw [hlk]; exact hS.env t
      unfold wpListIn
      rw [if_neg (by simp [hwant])]
      refine ⟨fun _ _ => trivial, rvc_sound hY os is' his _ _ g K _ _ A β hskip ⟨hS.cur, ?_, by rw [(hput a undef).1]; exact hS.size, by rw [(hput a undef).2]; exact hS.marks, fun h => by rw [(hput a undef).2]; exact hS.nodef h, hS.inv⟩ hQ⟩
      rw [hdst]
      exact EnvRel.put (fun t => hr t) (fun t ht => by rw [hS.size]; exact hdN t ht) (.tup _ [] [] rfl fun i f v h => by simp at h)

theorem wpOps_of_list {F : Fence} {m : Nat} {ops : Array Oper} {Q : Exit → Act → World → Prop} : ∀ (l : List Oper) (k : Nat) (a : Act) (w : World), (∀ j : Nat, j < l.length → l[j]? = ops[k + j]?) → wpListIn F m P ops Q l a w → wpOpsIn F m P ops Q (List.range' k l.length) a w
  | [], _, _, _, _, h => h
  | o :: l, k, a, w, hl, h => by
    have h0 : ops[k]? = some o := by simpa using (hl 0 (by simp)).symm
    simp only [List.length_cons, List.range'_succ, wpOpsIn_cons]
    unfold wpOpIn
    simp only [h0]
    unfold wpListIn at h
    have hl' : ∀ j : Nat, j < l.length → l[j]? = ops[k + 1 + j]? := fun j hj => by
      have := hl (j + 1) (by simp; omega)
      simpa [Nat.add_assoc, Nat.add_comm 1 j] using this
    split
    · rename_i hw
      rw [if_pos hw] at h
      exact Oper.wpIn_mono (fun a w h => wpOps_of_list l (k + 1) a w hl' h) h
    · rename_i hw
      rw [if_neg hw] at h
      exact ⟨h.1, wpOps_of_list l (k + 1) _ w hl' h.2⟩

end
end Go.Proofs.Ytefciekodhpefaa
