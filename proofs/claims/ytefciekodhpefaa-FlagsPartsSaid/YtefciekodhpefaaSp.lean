/- What is shown of code is what it does: a region that draws its order, whole. -/
import Derived.Test.YtefciekodhpefaaSo
namespace Go.Proofs.Ytefciekodhpefaa
open Go.RowKit

section
variable {P : Program} {w : World} {A : Nat → Prop} {β : List (Option Nat)} {H : List Blk}

/-- The names that operation j is to give are given to nothing yet. -/
def UU (st : Nat → Nat) (j : Nat) (s : GS) : Prop := ∀ q, st j ≤ q → q < st (j + 1) → s.2[q]? = some none

/-- The facts of a stretch of operations. -/
structure Stretch (P : Program) (w : World) (A : Nat → Prop) (β : List (Option Nat)) (ops : Array Oper) (N : Nat) (os : List Oper) (e : Env) (Hp Hn : List Blk) (e' : Env) (G : Nat → Fact (List (Option Nat))) (S : Nat → Nat) : Prop where
  s0 : S 0 = Hp.length
  s1 : S os.length = Hp.length + Hn.length
  up : ∀ k, k < os.length → S k ≤ S (k + 1)
  all : ∀ (Hall : List Blk), (Hp ++ Hn) <+: Hall → ∀ (j0 : Nat) (F : Nat → Fact (List (Option Nat))) (C0 : Tmp → Fact (List (Option Nat))) (st : Nat → Nat), (∀ (k : Nat) (o : Oper), os[k]? = some o → ops[j0 + k]? = some o) → (∀ k, k < os.length → F (j0 + k) = G k) → (∀ k, k ≤ os.length → st (j0 + k) = S k) →
    (∀ i j, i ≤ j → st i ≤ st j) → (∀ t v s, Cat ops F C0 j0 t v s → RF A β (look e t) v s) →
    (∀ t v s, Cat ops F C0 (j0 + os.length) t v s → RF A β (look e' t) v s) ∧
    (∀ (k : Nat) (o : Oper), os[k]? = some o → ∀ (s0 : GS) (D : List Deferred), Okk w A β Hall s0 → Below w.heap.size w s0.1 → Obl P ops (RS w A β Hall) (UU st) s0 N D (Cat ops F C0 (j0 + k)) (j0 + k) o (G k)) ∧
    (∀ (k : Nat) (o : Oper), os[k]? = some o → ∀ v s, G k v s → ∀ q, S k ≤ q → q < S (k + 1) → ∃ b, s.2[q]? = some (some b)) ∧
    (∀ (k : Nat) (o : Oper) (x : Operand), os[k]? = some o → o.guard = none → o.op = .move x → ∀ (a : Act) (s : GS), (∀ t, x = .tmp t → Cat ops F C0 (j0 + k) t (a.tmps.getD t undef) s) → G k (a.eval x) s)

theorem cat_step {ops : Array Oper} {F : Nat → Fact (List (Option Nat))} {C0 : Tmp → Fact (List (Option Nat))} {j : Nat} {o : Oper} (ho : ops[j]? = some o) {e : Env} {sv : SV} (hF : ∀ v s, F j v s → RF A β sv v s)
    (h : ∀ t v s, Cat ops F C0 j t v s → RF A β (look e t) v s) : ∀ t v s, Cat ops F C0 (j + 1) t v s → RF A β (look (setE e o.dst sv) t) v s := by
  intro t v s hc
  simp only [Cat, upd, ho, Option.bind_some] at hc
  split at hc
  · rename_i hd
    simp only [hd, setE, look, if_true]
    exact hF v s hc
  · rename_i hd
    cases hdd : o.dst with
    | none => simpa [setE] using h t v s hc
    | some d =>
      have : d ≠ t := fun e => hd (by rw [hdd, e])
      simp only [setE, look, if_neg this]
      exact h t v s hc

theorem dvc_list (hWR : WRel w A β H) {ops : Array Oper} {N : Nat} : ∀ (os : List Oper) (is : List Ins), os.mapM (cIns P ops N) = some is → ∀ (e : Env) (Hp : List Blk) (K : Env → List Blk → Prop), dvc P is e (H ++ Hp) K →
    ∃ (Hn : List Blk) (e' : Env) (G : Nat → Fact (List (Option Nat))) (S : Nat → Nat), K e' (H ++ Hp ++ Hn) ∧ Stretch P w A β ops N os e Hp Hn e' G S
  | [], is, hm, e, Hp, K, h => by
    simp at hm; subst hm
    refine ⟨[], e, fun _ _ _ => True, fun _ => Hp.length, by simpa [dvc_nil_eq] using h, rfl, by simp, fun k hk => Nat.le_refl _, fun Hall hpre j0 F C0 st _ _ _ _ hC => ⟨by simpa using hC, fun k o ho => by simp at ho, fun k o ho => by simp at ho, fun k o x ho => by simp at ho⟩⟩
  | o :: os, is, hm, e, Hp, K, h => by
    simp only [List.mapM_cons, Option.bind_eq_bind, Option.pure_def] at hm
    obtain ⟨i, hi, hm⟩ := Option.bind_eq_some_iff.1 hm
    obtain ⟨is', his, hm⟩ := Option.bind_eq_some_iff.1 hm
    cases hm
    obtain ⟨hcop, hdst, hdN, hgd⟩ := cIns_spec hi
    simp only [dvc_cons_eq, fc_eq, fhj_eq] at h
    -- a guard's slot is looked at
    have hlook : ∀ t, i.guard.map (·.1) = some t → t ∈ o.looksAt ops := fun t ht => by
      rcases hgd with ⟨_, h2⟩ | ⟨j, want, t', h1, h2, h3, h4⟩
      · simp [h2] at ht
      · simp [h4] at ht; subst ht
        simp [Oper.looksAt, h1, h2]
    have hoper : ∀ t, Operand.tmp t ∈ o.op.operands → t ∈ o.looksAt ops := fun t ht => List.mem_append_left _ (List.mem_filterMap.2 ⟨.tmp t, by simpa using ht, rfl⟩)
    -- one operation ahead of a stretch
    have join : ∀ (e2 : Env), (∀ t, look e2 t = look e t) → ∀ (sv : SV) (H1 : List Blk) (G0 : Fact (List (Option Nat))), (∀ v s, G0 v s → RF A β sv v s) → (∀ v s, G0 v s → ∀ q, Hp.length ≤ q → q < Hp.length + H1.length → ∃ b, s.2[q]? = some (some b)) →
        dvc P is' (setE e2 i.dst sv) (H ++ (Hp ++ H1)) K →
        (∀ (Hall : List Blk), (Hp ++ H1) <+: Hall → ∀ (j0 : Nat) (C : Tmp → Fact (List (Option Nat))) (st : Nat → Nat), st j0 = Hp.length → st (j0 + 1) = Hp.length + H1.length → (∀ i j, i ≤ j → st i ≤ st j) → (∀ t v s, C t v s → RF A β (look e t) v s) →
          (∀ (s0 : GS) (D : List Deferred), Okk w A β Hall s0 → Below w.heap.size w s0.1 → Obl P ops (RS w A β Hall) (UU st) s0 N D C j0 o G0) ∧
          (∀ (x : Operand), o.guard = none → o.op = .move x → ∀ (a : Act) (s : GS), (∀ t, x = .tmp t → C t (a.tmps.getD t undef) s) → G0 (a.eval x) s)) →
        ∃ (Hn : List Blk) (e' : Env) (G : Nat → Fact (List (Option Nat))) (S : Nat → Nat), K e' (H ++ Hp ++ Hn) ∧ Stretch P w A β ops N (o :: os) e Hp Hn e' G S := by
      intro e2 hlk sv H1 G0 hG1 hG2 hrest hob
      obtain ⟨Hn, e', G, S, hK, hs⟩ := dvc_list hWR os is' his _ _ K hrest
      refine ⟨H1 ++ Hn, e', fun k => match k with | 0 => G0 | k + 1 => G k, fun k => match k with | 0 => Hp.length | k + 1 => S k, by simpa [List.append_assoc] using hK, rfl, ?_, fun k hk => ?_, fun Hall hpre j0 F C0 st hops hF hst hup hC => ?_⟩
      · have := hs.s1
        simp only [List.length_append] at this ⊢
        simpa [Nat.add_assoc] using this
      · cases k with
        | zero =>
          have := hs.s0
          simp only [List.length_append] at this
          show Hp.length ≤ S 0
          omega
        | succ k => exact hs.up k (by simpa using hk)
      · have h0 : ops[j0]? = some o := by simpa using hops 0 o (by simp)
        have hF0 : F j0 = G0 := by simpa using hF 0 (by simp)
        have hst0 : st j0 = Hp.length := by simpa using hst 0 (by simp)
        have hst1 : st (j0 + 1) = Hp.length + H1.length := by
          rw [hst 1 (by simp)]
          show S 0 = _
          rw [hs.s0]; simp
        have hpre1 : (Hp ++ H1) <+: Hall := by
          obtain ⟨t, ht⟩ := hpre
          exact ⟨Hn ++ t, by rw [← ht]; simp [List.append_assoc]⟩
        have hC1 := cat_step (A := A) (β := β) (F := F) (C0 := C0) (e := e2) h0 (fun v s h => hG1 v s (hF0 ▸ h)) (fun t v s hc => by rw [hlk]; exact hC t v s hc)
        rw [← hdst] at hC1
        obtain ⟨r1, r2, r3, r4⟩ := hs.all Hall (by simpa [List.append_assoc] using hpre) (j0 + 1) F C0 st (fun k o' ho' => by
            have := hops (k + 1) o' (by simpa using ho')
            rwa [show j0 + (k + 1) = j0 + 1 + k by omega] at this) (fun k hk => by
            have := hF (k + 1) (by simpa using hk)
            rwa [show j0 + (k + 1) = j0 + 1 + k by omega] at this) (fun k hk => by
            have := hst (k + 1) (by simpa using hk)
            rwa [show j0 + (k + 1) = j0 + 1 + k by omega] at this) hup hC1
        obtain ⟨o1, o2⟩ := hob Hall hpre1 j0 (Cat ops F C0 j0) st hst0 hst1 hup hC
        refine ⟨by rw [show j0 + (o :: os).length = j0 + 1 + os.length by simp; omega]; exact r1, fun k o' ho' s0 D hok hb => ?_, fun k o' ho' v s hg q h1 h2 => ?_, fun k o' x ho' hgn hx a s hc => ?_⟩
        · cases k with
          | zero => simp at ho'; subst ho'; exact o1 s0 D hok hb
          | succ k =>
            have := r2 k o' (by simpa using ho') s0 D hok hb
            rwa [show j0 + 1 + k = j0 + (k + 1) by omega] at this
        · cases k with
          | zero =>
            refine hG2 v s hg q h1 ?_
            have : S 0 = Hp.length + H1.length := by rw [hs.s0]; simp
            have h2' : q < S 0 := h2
            omega
          | succ k => exact r3 k o' (by simpa using ho') v s hg q h1 h2
        · cases k with
          | zero => simp at ho'; subst ho'; exact o2 x hgn hx a s hc
          | succ k =>
            refine r4 k o' x (by simpa using ho') hgn hx a s fun t ht => ?_
            have := hc t ht
            rwa [show j0 + (k + 1) = j0 + 1 + k by omega] at this
    have below_trans : ∀ {x y z : World}, Below x.heap.size x y → Below y.heap.size y z → Below x.heap.size x z := fun h1 h2 => h1.trans (h2.mono h1.size)
    rcases guard_spec hi h with ⟨e2, hrun, hlk, hw⟩ | ⟨e2, hskip, hlk, hgs, hw⟩
    · -- it runs
      obtain ⟨sv, H1, hK1, hdo, hmvs⟩ : ∃ sv H1, dvc P is' (setE e2 i.dst sv) (H ++ Hp ++ H1) K ∧ (∀ (Hall : List Blk), (Hp ++ H1) <+: Hall → ∀ (s : GS) (a : Act), Below w.heap.size w s.1 → Okk w A β Hall s → (∀ k, k < H1.length → s.2[Hp.length + k]? = some none) → (∀ t, Operand.tmp t ∈ o.op.operands → RF A β (look e2 t) (a.tmps.getD t undef) s) →
          rel P o a s.1 fun v w' => ∃ g', RS w A β Hall s (w', g') ∧ RF A β sv v (w', g') ∧ (∀ k, k < H1.length → ∃ b, g'[Hp.length + k]? = some (some b)) ∧ ∀ k, ¬ (Hp.length ≤ k ∧ k < Hp.length + H1.length) → g'[k]? = s.2[k]?) ∧
          ∀ (x : Operand), o.op = .move x → sv = ev e2 (cOpd x) ∧ H1 = [] := by
        by_cases hmv : ∃ x, o.op = .move x
        · obtain ⟨x, hx⟩ := hmv
          have hc : i.op = .mv (cOpd x) := by
            have := hcop
            simp only [cop, hx, Option.some.injEq] at this
            exact this.symm
          rw [hc] at hrun
          refine ⟨ev e2 (cOpd x), [], hrun, fun Hall hpre s a hb ho _ hr => ?_, fun y hy => by rw [hx] at hy; cases hy; exact ⟨rfl, rfl⟩⟩
          refine rel_value (v := a.eval x) (w' := s.1) (by simp [execOp, hx]) ⟨s.2, RS.refl s, ?_, fun k hk => absurd hk (Nat.not_lt_zero _), fun _ _ => rfl⟩
          exact ev_rep x fun t ht => hr t (by simp [hx, Op.operands, ht])
        · obtain ⟨sv, H1, h1, h2⟩ := dop_sound hWR hcop hrun
          exact ⟨sv, H1, h1, h2, fun x hx => absurd ⟨x, hx⟩ hmv⟩
      rw [List.append_assoc] at hK1
      refine join e2 hlk sv H1 (fun v s => RF A β sv v s ∧ ∀ q, Hp.length ≤ q → q < Hp.length + H1.length → ∃ b, s.2[q]? = some (some b)) (fun v s h => h.1) (fun v s h => h.2) hK1 fun Hall hpre j0 C st hst0 hst1 hup hC => ⟨fun s0 D hok0 hb0 => ⟨fun v s s' hR hg => ⟨rep_step hR hg.1, fun q h1 h2 => ?_⟩, fun a s hR hU hD hN hT => ?_⟩, fun x hgn hx a s hc => ?_⟩
      · obtain ⟨b, hb⟩ := hg.2 q h1 h2
        exact ⟨b, hR.mono q b hb⟩
      · have hTt : ∀ t ∈ o.looksAt ops, RF A β (look e2 t) (a.tmps.getD t undef) s := fun t ht => by rw [hlk]; exact hC t _ _ (hT t ht)
        rw [if_pos (hw s.1 (AS A s) (β ++ s.2) a.tmps hN fun t ht => by have := hTt t (hlook t ht); rw [hlk] at this; exact this)]
        refine rel_mono (hdo Hall hpre s a (below_trans hb0 hR.below) (hR.okk hok0) (fun k hk => hU _ (by omega) (by omega)) fun t ht => hTt t (hoper t ht)) fun v w' ⟨g', hRS, hrep, hnew, hold⟩ => ?_
        refine ⟨g', hRS, ⟨hrep, fun q h1 h2 => ?_⟩, fun k hk hUk q h1 h2 => ?_⟩
        · obtain ⟨b, hb⟩ := hnew (q - Hp.length) (by omega)
          exact ⟨b, by rw [← hb]; congr 1; omega⟩
        · have hout : ¬ (Hp.length ≤ q ∧ q < Hp.length + H1.length) := fun ⟨h3, h4⟩ => by
            rcases Nat.lt_or_gt_of_ne hk with hlt | hlt
            · have := hup (k + 1) j0 (by omega); omega
            · have := hup (j0 + 1) k (by omega); omega
          rw [hold q hout]; exact hUk q h1 h2
      · obtain ⟨hsv, hH1⟩ := hmvs x hx
        subst hH1
        refine ⟨?_, fun q h1 h2 => by simp at h2; omega⟩
        rw [hsv]
        exact ev_rep x fun t ht => by rw [hlk]; exact hC t _ _ (hc t ht)
    · -- it does not
      refine join e2 hlk (.tup []) [] (fun v _ => v = undef) (fun v s h => ?_) (fun v s _ q h1 h2 => by simp at h2; omega) (by simpa using hskip) fun Hall hpre j0 C st hst0 hst1 hup hC => ⟨fun s0 D hok0 hb0 => ⟨fun v s s' hR hg => hg, fun a s hR hU hD hN hT => ?_⟩, fun x hgn hx a s hc => ?_⟩
      · subst h; exact .tup _ [] [] rfl fun i f v h => by simp at h
      · rw [if_neg]
        rw [hw s.1 (AS A s) (β ++ s.2) a.tmps hN fun t ht => hC t _ _ (hT t (hlook t ht))]
        simp
      · rcases hgd with ⟨_, h2⟩ | ⟨j, want, t', h1, _⟩
        · rw [h2] at hgs; cases hgs
        · rw [h1] at hgn; cases hgn

end
end Go.Proofs.Ytefciekodhpefaa
