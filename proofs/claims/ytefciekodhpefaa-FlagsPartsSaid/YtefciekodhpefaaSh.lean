/- What is shown of an operation that turns nothing is what it does: all in one. -/
import Derived.Test.YtefciekodhpefaaSg
namespace Go.Proofs.Ytefciekodhpefaa
open Go.RowKit

section
variable {P : Program}

theorem mm_good {o : Oper} {c : Call} {mx : Bool} (ho : o.op = .call c) (hb : c.callee = .builtin (if mx then .max else .min)) {e : Env} {H : List Blk} {K : SV → Prop} (h : pop P (.mm mx (c.args.toList.map cOpd)) e H K) : ∃ sv, K sv ∧ Good P o e H sv := by
  simp only [pop] at h
  cases hxs : c.args.toList with
  | nil => simp [hxs] at h
  | cons x xs =>
    simp only [hxs, List.map_cons] at h
    have hmem : ∀ y ∈ c.args.toList, y ∈ o.op.operands := fun y hy => by simp [ho, Op.operands, Call.operands, hb]; simpa using hy
    cases hx : ev e (cOpd x) with
    | int k m =>
      simp only [hx] at h
      obtain ⟨sv, hK, _, hrun⟩ := mmK_sound mx e xs _ K h ⟨_, _, rfl⟩
      refine ⟨sv, hK, good_of fun w A β a hW hr => ?_⟩
      have h1 := rep_int (eval_rep hr (hmem x (by simp [hxs])) hx)
      obtain ⟨u, h2, h3⟩ := hrun w A β a _ (.int _ _ _) fun y hy => hr y (hmem y (by simp [hxs, hy]))
      refine ⟨u, ?_, h3⟩
      have hargs : (c.args.map a.eval).toList = .int k m :: xs.map a.eval := by simp [hxs, h1]
      cases mx
      · have hb : c.callee = .builtin .min := hb
        have h2 : ((xs.map a.eval).foldlM Builtin.min2 (.int k m)).run P w = .ok u w := h2
        simp only [execOp, ho, resolve, hb, Sem.run_bind, Sem.run_pure, Result.andThen_ok, invoke, builtin, Builtin.min_, hargs]
        rw [h2]; rfl
      · have hb : c.callee = .builtin .max := hb
        have h2 : ((xs.map a.eval).foldlM Builtin.max2 (.int k m)).run P w = .ok u w := h2
        simp only [execOp, ho, resolve, hb, Sem.run_bind, Sem.run_pure, Result.andThen_ok, invoke, builtin, Builtin.max_, hargs]
        rw [h2]; rfl
    | _ => simp [hx] at h

theorem ln_good {o : Oper} {c : Call} {x : Operand} (ho : o.op = .call c) (hb : c.callee = .builtin .len) (hx : c.args.toList = [x]) {el : TypeId} (ht : c.argTypes.toList.map P.underlying = [some (.slice el)]) {e : Env} {H : List Blk} {K : SV → Prop}
    (h : pop P (.ln (cOpd x)) e H K) : ∃ sv, K sv ∧ Good P o e H sv := by
  obtain ⟨t, hts, hu⟩ : ∃ t, c.argTypes.toList = [t] ∧ P.underlying t = some (.slice el) := by
    cases h : c.argTypes.toList with
    | nil => simp [h] at ht
    | cons t l => cases l <;> simp [h] at ht; exact ⟨t, rfl, ht⟩
  have ht' : c.argTypes = #[t] := by apply Array.ext'; simpa using hts
  have hx' : c.args = #[x] := by apply Array.ext'; simpa using hx
  have hxm : x ∈ o.op.operands := by simp [ho, Op.operands, Call.operands, hb, hx']
  have run : ∀ {w : World} {a : Act} {ad : Option Addr} {n cp : Nat}, a.eval x = .slice ad n cp → (execOp a.eval o).run P w = .ok (.value (.int .i64 n)) w := by
    intro w a ad n cp he
    simp [execOp, ho, resolve, hb, hx', ht', invoke, builtin, Builtin.len_, run_under hu, he, goInt]
  simp only [pop] at h
  split at h
  · rename_i wd xs he
    refine ⟨_, h, good_of fun w A β a hW hr => ?_⟩
    have hrep := eval_rep hr hxm he
    generalize hav : a.eval x = v at hrep
    cases hrep
    · exact ⟨_, run hav, .int _ _ _⟩
    · exact ⟨_, run hav, .int _ _ _⟩
  · rename_i k wd i n he
    refine ⟨_, h, good_of fun w A β a hW hr => ?_⟩
    have hrep := eval_rep hr hxm he
    generalize hav : a.eval x = v at hrep
    cases hrep
    · exact ⟨_, run hav, .int _ _ _⟩
    · exact ⟨_, run hav, .int _ _ _⟩
  · rename_i he
    refine ⟨_, h, good_of fun w A β a hW hr => ?_⟩
    have hrep := eval_rep hr hxm he
    generalize hav : a.eval x = v at hrep
    cases hrep
    exact ⟨_, run hav, .int _ _ _⟩
  · exact h.elim

theorem lnA_good {o : Oper} {c : Call} {x : Operand} (ho : o.op = .call c) (hb : c.callee = .builtin .len) (hx : c.args.toList = [x]) {n : Nat} {el : TypeId} (ht : c.argTypes.toList.map P.underlying = [some (.array n el)]) {e : Env} {H : List Blk} {K : SV → Prop}
    (h : pop P (.lnA n (cOpd x)) e H K) : ∃ sv, K sv ∧ Good P o e H sv := by
  obtain ⟨t, hts, hu⟩ : ∃ t, c.argTypes.toList = [t] ∧ P.underlying t = some (.array n el) := by
    cases h : c.argTypes.toList with
    | nil => simp [h] at ht
    | cons t l => cases l <;> simp [h] at ht; exact ⟨t, rfl, ht⟩
  have ht' : c.argTypes = #[t] := by apply Array.ext'; simpa using hts
  have hx' : c.args = #[x] := by apply Array.ext'; simpa using hx
  refine ⟨_, h, good_of fun w A β a hW hr => ⟨.int .i64 n, ?_, .int _ _ _⟩⟩
  simp [execOp, ho, resolve, hb, hx', ht', invoke, builtin, Builtin.len_, run_under hu, goInt]

/-- **AN OPERATION THAT TURNS NOTHING.** -/
theorem pop_sound {o : Oper} {op : IOp} {e : Env} {H : List Blk} {K : SV → Prop} (hc : cop P o = some op) (h : pop P op e H K) : ∃ sv, K sv ∧ Good P o e H sv := by
  cases hop : o.op with
  | move x =>
    simp only [cop, hop, Option.some.injEq] at hc; subst hc
    exact ⟨_, h, good_of fun w A β a hW hr => ⟨a.eval x, by simp [execOp, hop], hr x (by simp [hop, Op.operands])⟩⟩
  | assign x =>
    simp only [cop, hop, Option.some.injEq] at hc; subst hc
    exact ⟨_, h, good_of fun w A β a hW hr => ⟨a.eval x, by simp [execOp, hop], hr x (by simp [hop, Op.operands])⟩⟩
  | pick c x y =>
    simp only [cop, hop, Option.some.injEq] at hc; subst hc
    simp only [pop] at h
    split at h
    · rename_i hb
      refine ⟨_, h, good_of fun w A β a hW hr => ⟨a.eval x, ?_, hr x (by simp [hop, Op.operands])⟩⟩
      simp [execOp, hop, rep_bool (eval_rep hr (show c ∈ o.op.operands by simp [hop, Op.operands]) hb), asBool]
    · rename_i hb
      refine ⟨_, h, good_of fun w A β a hW hr => ⟨a.eval y, ?_, hr y (by simp [hop, Op.operands])⟩⟩
      simp [execOp, hop, rep_bool (eval_rep hr (show c ∈ o.op.operands by simp [hop, Op.operands]) hb), asBool]
    · exact h.elim
  | nilCheck x =>
    simp only [cop, hop, Option.some.injEq] at hc; subst hc
    have hx : x ∈ o.op.operands := by simp [hop, Op.operands]
    simp only [pop] at h
    split at h
    · rename_i he
      refine ⟨_, h, good_of fun w A β a hW hr => ⟨a.eval x, ?_, eval_rep hr hx he⟩⟩
      have hrep := eval_rep hr hx he
      generalize hav : a.eval x = v at hrep
      cases hrep
      simp [execOp, hop, hav]
    · rename_i he
      refine ⟨_, h, good_of fun w A β a hW hr => ⟨a.eval x, ?_, eval_rep hr hx he⟩⟩
      have hrep := eval_rep hr hx he
      generalize hav : a.eval x = v at hrep
      cases hrep
      simp [execOp, hop, hav]
    · rename_i he
      refine ⟨_, h, good_of fun w A β a hW hr => ⟨a.eval x, ?_, eval_rep hr hx he⟩⟩
      have hrep := eval_rep hr hx he
      generalize hav : a.eval x = v at hrep
      cases hrep
      simp [execOp, hop, hav]
    · exact h.elim
  | binOp b t x y yt => exact bin_good hop hc h
  | unOp b t x =>
    simp only [cop, hop, Option.some.injEq] at hc; subst hc
    obtain ⟨sv, hK, hrun⟩ := unK_sound (P := P) h
    refine ⟨sv, hK, good_of fun w A β a hW hr => ?_⟩
    obtain ⟨u, h1, h2⟩ := hrun w A β _ (hr x (by simp [hop, Op.operands]))
    exact ⟨u, by simp [execOp, hop, h1], h2⟩
  | convert s d x =>
    simp only [cop, hop] at hc
    split at hc
    · rename_i ds k hs hd
      cases hc
      obtain ⟨k', z, hz, z', hz', hK⟩ := asI_ex h
      refine ⟨_, hK, fun w A β a hA hW hr => ?_⟩
      have h1 := rep_int (eval_rep (fun x hx => ev_rep x fun t ht => hr t (ht ▸ hx)) (show x ∈ o.op.operands by simp [hop, Op.operands]) hz)
      refine rel_value (v := .int k z') (w' := w) ?_ ⟨Below.refl _ _, .int _ _ _⟩
      rw [hz'.eq]
      cases ds <;> simp [execOp, hop, convert, run_under hd, run_under hs, h1, Conv.intToInt]
    · cases hc; exact oth_good h
  | makeFunc f first caps =>
    simp only [cop, hop] at hc
    cases f <;> simp only [Option.some.injEq, reduceCtorEq] at hc
    all_goals try (cases hc; exact oth_good h)
    split at hc
    · rename_i f hfirst
      cases hc
      refine ⟨_, h, good_of fun w A β a hW hr => ?_⟩
      have hm := map_reps (e := e) (a := a) caps.toList fun x hx => hr x (by simp [hop, Op.operands]; exact .inr (by simpa using hx))
      refine ⟨.func (.func f) #[] (caps.toList.map a.eval).toArray, ?_, .fn _ _ _ _ hm.1 hm.2⟩
      have hcs : caps.map a.eval = (caps.toList.map a.eval).toArray := by apply Array.ext'; simp
      simp [execOp, hop, Instr.makeFunc, hfirst, hcs]
    · cases hc
  | build t parts => exact bld_good hop hc h
  | buildSlice t len parts => exact bsl_good hop hc h
  | load t x => exact ld_good hop hc h
  | fieldAddr t x i => exact fa_good hop hc h
  | field t x i => exact fd_good hop hc h
  | indexAddr t x i => exact ia_good hop hc h
  | index t x i =>
    cases hu : P.underlying t with
    | none => simp only [cop, hop, hu, Option.some.injEq] at hc; subst hc; exact oth_good h
    | some d =>
      cases d
      case array n el => exact ix_good hop hu hc h
      all_goals (simp only [cop, hop, hu, Option.some.injEq] at hc; subst hc; exact oth_good h)
  | extract x i =>
    simp only [cop, hop, Option.some.injEq] at hc; subst hc
    simp only [pop] at h
    split at h
    · rename_i fs he
      split at h
      · rename_i f hf
        refine ⟨_, h, good_of fun w A β a hW hr => ?_⟩
        have hrep := eval_rep hr (show x ∈ o.op.operands by simp [hop, Op.operands]) he
        generalize hav : a.eval x = v at hrep
        cases hrep with
        | tup _ _ vs hl hh =>
          have hi : i < vs.length := by rw [hl]; exact (List.getElem?_eq_some_iff.1 hf).1
          exact ⟨vs[i], by simp [execOp, hop, hav, Instr.extract, hi], hh i f _ hf (by simp [hi])⟩
      · exact h.elim
    · exact h.elim
  | slice t x lo hi mx =>
    simp only [cop, hop] at hc
    split at hc
    · rename_i el hu
      obtain ⟨s, hs, rfl⟩ := Option.map_eq_some_iff.1 hc
      exact sl_good hop hu hs h
    · cases hc; exact oth_good h
  | call c =>
    simp only [cop, hop] at hc
    split at hc
    · rename_i f hf
      cases hc
      exact call_good hop hf h
    · cases hc
    · rename_i b hb
      split at hc
      · rename_i x el hx ht; cases hc; exact ln_good hop hb hx ht h
      · rename_i x n el hx ht; cases hc; exact lnA_good hop hb hx ht h
      · cases hc; exact mm_good (mx := true) hop hb h
      · cases hc; exact mm_good (mx := false) hop hb h
      · split at hc
        · split at hc
          · cases hc; simp [pop] at h
          · cases hc
        · cases hc
      · split at hc
        · split at hc
          · cases hc; simp [pop] at h
          · cases hc
        · cases hc
      · cases hc; exact oth_good h
  | alloc t =>
    simp only [cop, hop] at hc
    obtain ⟨z, hz, rfl⟩ := Option.map_eq_some_iff.1 hc
    simp [pop] at h
  | box t x => simp only [cop, hop, Option.some.injEq] at hc; subst hc; simp [pop] at h
  | store t x y =>
    simp only [cop, hop] at hc
    obtain ⟨z, hz, rfl⟩ := Option.map_eq_some_iff.1 hc
    simp [pop] at h
  | makeSlice t l c =>
    simp only [cop, hop] at hc
    split at hc
    · split at hc
      · split at hc
        · cases hc; simp [pop] at h
        · cases hc
      · cases hc
    · cases hc
  | defer c => simp [cop, hop] at hc
  | _ => simp only [cop, hop, Option.some.injEq] at hc; subst hc; exact oth_good h

end
end Go.Proofs.Ytefciekodhpefaa
