/- What is shown of an operation that turns nothing is what it does: all of them. -/
import Derived.Test.YtefciekodhpefaaSc
namespace Go.Proofs.Ytefciekodhpefaa
open Go.RowKit

section
variable {P : Program}

/-- An operation whose slots stand for what is known yields something that stands for sv; nothing that was there turns. -/
def Good (P : Program) (o : Oper) (e : Env) (H : List Blk) (sv : SV) : Prop :=
  ∀ (w : World) (A : Nat → Prop) (β : List (Option Nat)) (a : Act), (∀ b, A b → b < w.heap.size) → WB w A β H → (∀ t, Operand.tmp t ∈ o.op.operands → Rep w A β (look e t) (a.tmps.getD t undef)) →
    rel P o a w fun v w' => Below w.heap.size w w' ∧ Rep w' A β sv v

theorem good_of {o : Oper} {e : Env} {H : List Blk} {sv : SV}
    (h : ∀ (w : World) (A : Nat → Prop) (β : List (Option Nat)) (a : Act), WB w A β H → (∀ x, x ∈ o.op.operands → Rep w A β (ev e (cOpd x)) (a.eval x)) → ∃ v, (execOp a.eval o).run P w = .ok (.value v) w ∧ Rep w A β sv v) : Good P o e H sv := by
  intro w A β a _ hW hr
  obtain ⟨v, h1, h2⟩ := h w A β a hW fun x hx => ev_rep x fun t ht => hr t (ht ▸ hx)
  exact rel_value h1 ⟨Below.refl _ _, h2⟩

theorem rep_int {w : World} {A : Nat → Prop} {β : List (Option Nat)} {k : IntKind} {x : Int} {v : Value} (h : Rep w A β (.int k x) v) : v = .int k x := by cases h; rfl
theorem rep_bool {w : World} {A : Nat → Prop} {β : List (Option Nat)} {b : Bool} {v : Value} (h : Rep w A β (.bool b) v) : v = .bool b := by cases h; rfl

theorem asI_ex {x : SV} {K : Int → Prop} (h : asI x K) : ∃ k i, x = .int k i ∧ K i := by
  unfold asI at h; split at h
  · exact ⟨_, _, rfl, h⟩
  · exact h.elim

theorem mmK_sound (mx : Bool) (e : Env) : ∀ (xs : List Operand) (s : SV) (K : SV → Prop), mmK mx e s (xs.map cOpd) K → (∃ k m, s = .int k m) → ∃ sv, K sv ∧ (∃ k m, sv = .int k m) ∧
    ∀ (w : World) (A : Nat → Prop) (β : List (Option Nat)) (a : Act) (v : Value), Rep w A β s v → (∀ x ∈ xs, Rep w A β (ev e (cOpd x)) (a.eval x)) →
      ∃ u, ((xs.map a.eval).foldlM (if mx then Builtin.max2 else Builtin.min2) v).run P w = .ok u w ∧ Rep w A β sv u
  | [], s, K, h, hs => ⟨s, h, hs, fun w A β a v hv _ => ⟨v, by simp, hv⟩⟩
  | x :: xs, s, K, h, hs => by
    obtain ⟨k, m, rfl⟩ := hs
    simp only [List.map_cons, mmK] at h
    cases hx : ev e (cOpd x) with
    | int k' y =>
      simp only [hx] at h
      have h : mmK mx e (.int k (if mx then max m y else min m y)) (xs.map cOpd) K := by cases mx <;> exact h
      obtain ⟨sv, hK, hi, hrun⟩ := mmK_sound mx e xs _ K h ⟨_, _, rfl⟩
      refine ⟨sv, hK, hi, fun w A β a v hv hr => ?_⟩
      have hv' := rep_int hv
      have hx' := hr x (by simp)
      rw [hx] at hx'
      have hx' := rep_int hx'
      obtain ⟨u, h1, h2⟩ := hrun w A β a (.int k (if mx then max m y else min m y)) (.int _ _ _) fun z hz => hr z (by simp [hz])
      refine ⟨u, ?_, h2⟩
      rw [← h1, hv']
      simp only [List.map_cons, List.foldlM_cons, hx', Sem.run_bind]
      cases mx
      · simp only [Bool.false_eq_true, if_false, Builtin.min2, Sem.run_pure, Result.andThen_ok]
        have : (if y < m then y else m) = min m y := by omega
        rw [this]
      · simp only [if_true, Builtin.max2, Sem.run_pure, Result.andThen_ok]
        have : (if y > m then y else m) = max m y := by omega
        rw [this]
    | _ => simp [hx] at h

/-- What is laid into a struct or an array. -/
theorem foldl_set (fs : List Value) : ∀ (off k : Nat) (cs : List Value), off + k + fs.length ≤ cs.length →
    ((fs.zipIdx k).foldl (fun (c : Array Value) (x : Value × Nat) => c.setIfInBounds (off + x.2) x.1) cs.toArray) = (cs.take (off + k) ++ (fs ++ cs.drop (off + k + fs.length))).toArray := by
  induction fs with
  | nil => intro off k cs _; simp
  | cons f fs ih =>
    intro off k cs h
    simp only [List.length_cons] at h
    simp only [List.zipIdx_cons, List.foldl_cons, List.setIfInBounds_toArray]
    rw [ih off (k + 1) (cs.set (off + k) f) (by simp; omega)]
    have e1 : (cs.set (off + k) f).take (off + (k + 1)) = cs.take (off + k) ++ [f] := by
      rw [show off + (k + 1) = off + k + 1 by omega, List.take_succ_eq_append_getElem (by simp; omega), List.getElem_set_self, List.take_set_of_le (by omega)]
    have e2 : (cs.set (off + k) f).drop (off + (k + 1) + fs.length) = cs.drop (off + k + (f :: fs).length) := by
      rw [List.drop_set_of_lt (by omega)]; congr 1; simp; omega
    rw [e1, e2]
    simp

theorem splice_reps {w : World} {A : Nat → Prop} {β : List (Option Nat)} {z fs : List SV} {cs vs : List Value} {off : Nat} (hz : Reps w A β z cs) (hf : Reps w A β fs vs) (hle : off + fs.length ≤ z.length) :
    Reps w A β (splice z off fs) (cs.take off ++ (vs ++ cs.drop (off + vs.length))) := by
  refine ⟨by simp [splice, hz.1, hf.1], fun i f v h1 h2 => ?_⟩
  unfold splice at h1
  have e1 : (z.take off).length = off := by simp; omega
  have e2 : (cs.take off).length = off := by simp [hz.1]; omega
  by_cases hi : i < off
  · rw [List.getElem?_append_left (by omega), List.getElem?_take_of_lt hi] at h1 h2
    exact hz.2 i f v h1 h2
  · rw [List.getElem?_append_right (by omega)] at h1 h2
    rw [e1] at h1; rw [e2] at h2
    by_cases hj : i - off < fs.length
    · rw [List.getElem?_append_left (by omega)] at h1
      rw [List.getElem?_append_left (by rw [hf.1]; omega)] at h2
      exact hf.2 _ f v h1 h2
    · rw [List.getElem?_append_right (by omega)] at h1
      rw [List.getElem?_append_right (by rw [hf.1]; omega)] at h2
      rw [List.getElem?_drop] at h1 h2
      rw [hf.1] at h2
      exact hz.2 _ f v h1 h2

theorem cellsOf_reps {w : World} {A : Nat → Prop} {β : List (Option Nat)} {x : SV} {fs : List SV} {v : Value} (hc : cellsOf x = some fs) (h : Rep w A β x v) : Reps w A β fs v.cells.toList := by
  have one : v.cells = #[v] → fs = [x] → Reps w A β fs v.cells.toList := by
    intro h1 h2
    subst h2
    rw [h1]
    refine ⟨rfl, fun i f u h3 h4 => ?_⟩
    cases i with
    | zero => simp at h3 h4; subst h3 h4; exact h
    | succ i => simp at h3
  cases h
  case any => simp [cellsOf] at hc
  case agg fs' vs hl hh =>
    simp only [cellsOf, Option.some.injEq] at hc
    subst hc
    exact ⟨by simpa [Value.cells] using hl, fun i f v h1 h2 => hh i f v h1 (by simpa [Value.cells] using h2)⟩
  case raw =>
    cases v <;> simp only [cellsOf, Option.some.injEq, reduceCtorEq] at hc
    all_goals exact one rfl hc.symm
  all_goals
    simp only [cellsOf, Option.some.injEq] at hc
    exact one rfl hc.symm

end
end Go.Proofs.Ytefciekodhpefaa
