/- What is shown of code is what it does: a function's contract. -/
import Derived.Test.YtefciekodhpefaaSt
import Derived.Laws.Sem
import Derived.RangeFuncRecord
namespace Go.Proofs.Ytefciekodhpefaa
open Go.RowKit

section
variable {P : Program} {w0 : World} {A0 : Nat → Prop} {β0 : List (Option Nat)} {M : Nat} {ks : List Nat} {w : World} {A : Nat → Prop} {β : List (Option Nat)} {H : List Blk}

/-- The marks are come to, one after the other. -/
theorem leave_list {B0 : Nat → Prop} {e : Env} {F : Fence} {m : Nat} {tmps : Array Value} : ∀ (rs : List Nat) (w : World), rs.Nodup → (∀ r ∈ rs, w.heap[r]? = some (.deferred (some [])) ∧ some r ∉ β ∧ A r ∧ w0.heap.size ≤ r) →
    CurX B0 w0 A0 β0 M ks w A β H → EnvRel w A β e tmps →
    ∃ w'', CurX B0 w0 A0 β0 M ks w'' A β H ∧ EnvRel w'' A β e tmps ∧ ∀ (fn : Func) (R : Ending → World → Prop), LeavesIn F m P fn tmps R [] .returning w'' → LeavesInM F m P fn tmps R (rs.map (fun r => { target := .collected r, args := #[] })) .returning w
  | [], w, _, _, hc, he => ⟨w, hc, he, fun fn R h => h⟩
  | q :: rs, w, hn, hr, hc, he => by
    obtain ⟨hq1, hq2, hq3, hq4⟩ := hr q (by simp)
    obtain ⟨hc', stp⟩ := hc.put (o' := .deferred none) hq1 (fun _ _ _ h => by cases h) hq4 hq3 hq2
    obtain ⟨w'', h1, h2, hl⟩ := leave_list (F := F) (m := m) rs (w.putObj q (.deferred none)) (List.nodup_cons.1 hn).2 (fun r hm => by
      have hne : r ≠ q := fun e => (List.nodup_cons.1 hn).1 (e ▸ hm)
      have := hr r (by simp [hm])
      exact ⟨by rw [World.putObj_heap_other hne]; exact this.1, this.2⟩) hc' (fun t => (he t).mono stp fun _ _ h => h)
    exact ⟨w'', h1, h2, fun fn R h => ⟨by simp, .inl ⟨q, _, rfl, run_takeDeferred hq1, hl fn R h⟩⟩⟩

theorem Sta.leave {N : Nat} {y : Yv} {Y : Ysem} {g : Option Nat} {e : Env} {a : Act} {F : Fence} {m : Nat} (h : Sta w0 A0 β0 M ks N y Y g e H a w A β) : ∃ w'', (y.out = false → w'' = w) ∧ CurX Y.B0 w0 A0 β0 M ks w'' A β H ∧ EnvRel w'' A β e a.tmps ∧ ∀ (fn : Func) (R : Ending → World → Prop), LeavesIn F m P fn a.tmps R [] .returning w'' → LeavesInM F m P fn a.tmps R a.defers .returning w := by
  cases ho : y.out with
  | false => exact ⟨w, fun _ => rfl, h.cur, h.env, fun fn R hl => by rw [h.nodef ho]; exact hl⟩
  | true =>
    obtain ⟨rs, hn, hd, hr⟩ := h.marks
    obtain ⟨w'', h1, h2, h3⟩ := leave_list (P := P) (F := F) (m := m) rs w hn hr h.cur h.env
    exact ⟨w'', fun h => (by cases h), h1, h2, fun fn R hl => by rw [hd]; exact h3 fn R hl⟩

/-! ### Results -/

inductive RV where
  | t (n : Nat)
  | c (s : Nat) (ag : Bool) (n : Nat)

def cRes (P : Program) : ResultVar → Option RV
  | .tmp t => some (.t t)
  | .cell a t => match szOf P t, aggOf P t with
    | some s, some ag => some (.c s ag a)
    | _, _ => none

def resL (e : Env) (H : List Blk) : List RV → (List SV → Prop) → Prop
  | [], K => K []
  | .t n :: rs, K => resL e H rs fun vs => K (look e n :: vs)
  | .c s ag n :: rs, K => ldK s ag (look e n) H fun sv => resL e H rs fun vs => K (sv :: vs)

def resV : List SV → SV
  | [x] => x
  | xs => .tup xs

def resK (rs : List RV) (e : Env) (H : List Blk) (K : SV → Prop) : Prop := resL e H rs fun vs => K (resV vs)

theorem ld_run {t : TypeId} {s : Nat} {ag : Bool} (hs : szOf P t = some s) (hag : aggOf P t = some ag) {p : SV} {K : SV → Prop} (h : ldK s ag p H K) : ∃ sv, K sv ∧ ∀ (w : World) (A : Nat → Prop) (β : List (Option Nat)) (v : Value), WB w A β H → Rep w A β p v →
    ∃ ad u, v = .pointer (some ad) ∧ (loadVar t ad).run P w = .ok u w ∧ Rep w A β sv u := by
  unfold ldK at h
  split at h
  · rename_i cells j
    obtain ⟨sv, hK, hp⟩ := partK_ex h
    refine ⟨sv, hK, fun w A β v hW hrep => ?_⟩
    cases hrep
    rename_i b off vs hm hcs
    obtain ⟨⟨cs, T, fr, hb, hcell⟩, hA, _⟩ := hm
    obtain ⟨u, h1, h2⟩ := part_load hs hag (A := A) (β := []) hp hb (base := off) fun j c hc => by
      have hj : j < cells.length := (List.getElem?_eq_some_iff.1 hc).1
      have := hcell 0 cells j (by simp) hj
      simp only [Nat.zero_mul, Nat.add_zero] at this
      exact ⟨_, this, hcs j c hc⟩
    exact ⟨_, u, rfl, h1, h2.more _ fun k b h => by simp at h⟩
  · rename_i k wd i j
    split at h
    · rename_i cells hk
      obtain ⟨sv, hK, hp⟩ := partK_ex h
      refine ⟨sv, hK, fun w A β v hW hrep => ?_⟩
      cases hrep
      rename_i b hb
      obtain ⟨cs, T, h1, h2, h3⟩ := hW.blk k (some b) _ hb hk
      have := part_load hs hag (A := A) (β := β) hp h1 (base := 0) fun j c hc => by
        have hj : j < cs.length := by rw [h2]; exact (List.getElem?_eq_some_iff.1 hc).1
        exact ⟨cs[j], by simp [hj], h3 j c _ hc (by simp [hj])⟩
      obtain ⟨u, h5, h6⟩ := this
      exact ⟨_, u, rfl, by simpa using h5, h6⟩
    · rename_i wd' xs hk
      obtain ⟨rfl, x', hx', h⟩ := h
      obtain ⟨sv, hK, hp⟩ := partK_ex h
      refine ⟨sv, hK, fun w A β v hW hrep => ?_⟩
      cases hrep
      rename_i b hb
      obtain ⟨cs, T, h1, h2, h3⟩ := hW.blk k (some b) _ hb hk
      obtain ⟨hl, h4⟩ := h3 i x' hx'
      obtain ⟨u, h5, h6⟩ := part_load hs hag (A := A) (β := []) hp h1 (base := i * wd') fun j c hc => by
        obtain ⟨v, h7, h8⟩ := h4 j c hc
        exact ⟨v, by simpa using h7, h8⟩
      exact ⟨_, u, rfl, h5, h6.more _ fun k b h => by simp at h⟩
    · exact h.elim
  · exact h.elim

def rvSem (tmps : Array Value) : ResultVar → Sem Value
  | .tmp t => pure (tmps.getD t undef)
  | .cell a t => do loadVar t (← asAddr (tmps.getD a undef))

theorem results_eq (fn : Func) (tmps : Array Value) : results fn tmps = (do let vs ← fn.results.mapM (rvSem tmps); pure (if h : vs.size = 1 then vs[0] else .tuple vs)) := by
  unfold results
  have h : ∀ (f : ResultVar → Sem Value), (∀ x, f x = rvSem tmps x) → (do let vs ← fn.results.mapM f; (pure (if h : vs.size = 1 then vs[0] else .tuple vs) : Sem Value)) = (do let vs ← fn.results.mapM (rvSem tmps); pure (if h : vs.size = 1 then vs[0] else .tuple vs)) := fun f hf => by
    rw [funext hf]
  exact h _ fun x => by cases x <;> rfl

theorem resL_run {e : Env} : ∀ (rvs : List ResultVar) (rs : List RV), rvs.mapM (cRes P) = some rs → ∀ (K : List SV → Prop), resL e H rs K → ∃ vs, K vs ∧ ∀ (w : World) (A : Nat → Prop) (β : List (Option Nat)) (tmps : Array Value), WB w A β H → EnvRel w A β e tmps →
    ∃ us, (rvs.mapM (rvSem tmps)).run P w = .ok us w ∧ Reps w A β vs us
  | [], rs, hm, K, h => by
    simp at hm; subst hm
    exact ⟨[], h, fun w A β tmps _ _ => ⟨[], by simp [Sem.run_pure], rfl, fun i f v h => by simp at h⟩⟩
  | rv :: rvs, rs, hm, K, h => by
    simp only [List.mapM_cons, Option.bind_eq_bind, Option.pure_def] at hm
    obtain ⟨r, hr, hm⟩ := Option.bind_eq_some_iff.1 hm
    obtain ⟨rs', hrs, hm⟩ := Option.bind_eq_some_iff.1 hm
    cases hm
    have cons : ∀ {w : World} {A : Nat → Prop} {β : List (Option Nat)} {sv : SV} {vs : List SV} {u : Value} {us : List Value}, Rep w A β sv u → Reps w A β vs us → Reps w A β (sv :: vs) (u :: us) := fun h1 h2 => ⟨by simp [h2.1], fun i f v hf hv => by
      cases i with
      | zero => simp at hf hv; subst hf hv; exact h1
      | succ i => exact h2.2 i f v (by simpa using hf) (by simpa using hv)⟩
    cases rv with
    | tmp t =>
      simp only [cRes, Option.some.injEq] at hr; subst hr
      obtain ⟨vs, hK, hrun⟩ := resL_run rvs rs' hrs _ h
      refine ⟨_, hK, fun w A β tmps hW hE => ?_⟩
      obtain ⟨us, h1, h2⟩ := hrun w A β tmps hW hE
      exact ⟨_, by simp only [List.mapM_cons, rvSem, Sem.run_bind, Sem.run_pure, Result.andThen_ok, h1], cons (hE t) h2⟩
    | cell a t =>
      simp only [cRes] at hr
      split at hr
      · rename_i s ag hs hag
        cases hr
        obtain ⟨sv, h', hld⟩ := ld_run hs hag h
        obtain ⟨vs, hK, hrun⟩ := resL_run rvs rs' hrs _ h'
        refine ⟨_, hK, fun w A β tmps hW hE => ?_⟩
        obtain ⟨us, h1, h2⟩ := hrun w A β tmps hW hE
        obtain ⟨ad, u, h3, h4, h5⟩ := hld w A β _ hW (hE a)
        exact ⟨_, by simp only [List.mapM_cons, rvSem, h3, asAddr, Sem.run_bind, Sem.run_pure, Result.andThen_ok, h4, h1], cons h5 h2⟩
      · cases hr

theorem resK_run {fn : Func} {rs : List RV} (hrs : fn.results.toList.mapM (cRes P) = some rs) {e : Env} {K : SV → Prop} (h : resK rs e H K) : ∃ sv, K sv ∧ ∀ (w : World) (A : Nat → Prop) (β : List (Option Nat)) (tmps : Array Value), WB w A β H → EnvRel w A β e tmps →
    ∃ v, (results fn tmps).run P w = .ok v w ∧ Rep w A β sv v := by
  obtain ⟨vs, hK, hrun⟩ := resL_run _ _ hrs _ h
  refine ⟨_, hK, fun w A β tmps hW hE => ?_⟩
  obtain ⟨us, h1, h2⟩ := hrun w A β tmps hW hE
  rw [results_eq, Array.mapM_eq_mapM_toList]
  simp only [Sem.run_bind, map_eq_pure_bind, h1, Result.andThen_ok, Sem.run_pure]
  refine ⟨_, rfl, ?_⟩
  have hlen := h2.1
  match vs, us, hlen with
  | [x], [u], _ => exact h2.2 0 x u rfl rfl
  | [], [], _ => exact .tup _ _ _ rfl fun i f v h => by simp at h
  | x :: y :: vs, u :: u' :: us, hl => exact .tup _ _ _ hl h2.2

end
end Go.Proofs.Ytefciekodhpefaa
