/- What is shown of an operation that turns nothing is what it does: all of them. -/
import Derived.Test.YtefciekodhpefaaSe
namespace Go.Proofs.Ytefciekodhpefaa
open Go.RowKit

section
variable {P : Program}

theorem eval_rep {w : World} {A : Nat → Prop} {β : List (Option Nat)} {o : Oper} {e : Env} {a : Act} (hr : ∀ x, x ∈ o.op.operands → Rep w A β (ev e (cOpd x)) (a.eval x)) {x : Operand} (hx : x ∈ o.op.operands) {s : SV} (h : ev e (cOpd x) = s) : Rep w A β s (a.eval x) := h ▸ hr x hx

theorem bsl_good {o : Oper} {t : TypeId} {len : Nat} {parts : Array (Nat × Operand)} (ho : o.op = .buildSlice t len parts) {op : IOp} {e : Env} {H : List Blk} {K : SV → Prop} (hc : cop P o = some op) (h : pop P op e H K) : ∃ sv, K sv ∧ Good P o e H sv := by
  simp only [cop, ho] at hc
  cases hu : P.underlying t with
  | none => simp [hu] at hc
  | some d =>
    cases d <;> simp only [hu, reduceCtorEq] at hc
    rename_i el
    cases hs : szOf P el with
    | none => simp [hs] at hc
    | some s =>
      cases hz : zeroOf P el with
      | none => simp [hs, hz] at hc
      | some z =>
        simp only [hs, hz] at hc
        split at hc
        · rename_i hcond
          obtain ⟨hzl, hs0, hlen⟩ := hcond
          cases hc
          obtain ⟨hpz, h⟩ := h
          obtain ⟨ys, hyl, hK, hrun⟩ := bsl_sound e s parts.toList (List.replicate len z) (fun sv => K (bslEnd len sv)) h
          refine ⟨_, hK, fun w A β a hA hW hr => ?_⟩
          have hr' : ∀ x, x ∈ o.op.operands → Rep w A β (ev e (cOpd x)) (a.eval x) := fun x hx => ev_rep x fun t ht => hr t (ht ▸ hx)
          obtain ⟨v, hv, hvz⟩ := run_zero (P := P) hz
          have hvs : v.cells.size = s := by rw [← hzl, ← hvz]; simp
          subst hvz
          obtain ⟨cs', h5, h6, h7⟩ := hrun w A β a _ (row_zero len s v.cells hvs hs0 hpz (len * s) (Nat.le_refl _)) (by simp) fun p hp => hr' p.2 (by simp only [ho, Op.operands]; simp; exact ⟨p.1, by simpa using hp⟩)
          have hb : (w.alloc (.cells cs'.toArray el)).heap[w.heap.size]? = some (.cells cs'.toArray el (0, 0)) := World.alloc_heap_new _ _
          have hbel : Below w.heap.size w (w.alloc (.cells cs'.toArray el)) := (Below.refl _ _).alloc (Nat.le_refl _) _
          refine rel_value (w' := w.alloc (.cells cs'.toArray el)) (v := .slice (some ⟨w.heap.size, 0, none⟩) len len) ?_ ⟨hbel, ?_⟩
          · have hp : (parts.map fun (i, x) => (i, a.eval x)).toList = parts.toList.map fun p => (p.1, a.eval p.2) := by simp
            rw [Array.toArray_toList] at h5
            rcases Nat.eq_zero_or_pos len with h0 | h0
            · subst h0
              have e0 : Array.map (fun x => v.cells[x % v.cells.size]!) (Array.range (0 * s)) = #[] := by rw [Nat.zero_mul]; simp [Array.range]
              have e1 : Array.map (fun x => (#[] : Array Value)[x % (#[] : Array Value).size]!) (Array.range (0 * s)) = #[] := by rw [Nat.zero_mul]; simp [Array.range]
              rw [e0] at h5
              simp only [execOp, ho, Instr.buildSlice, Sem.run_bind, run_under hu, Result.andThen_ok, run_size hs, hp]
              rw [if_neg (by omega), if_pos (by omega)]
              simp only [Sem.run_bind, Sem.run_pure, Result.andThen_ok]
              rw [e1, h5]
              simp [newRow]
            · have hne : ¬ len * s = 0 := by
                have := Nat.mul_pos h0 hs0
                omega
              simp only [execOp, ho, Instr.buildSlice, Sem.run_bind, run_under hu, Result.andThen_ok, run_size hs, hp]
              rw [if_neg (by omega), if_neg hne]
              simp only [Sem.run_bind, hv, Sem.run_pure, Result.andThen_ok, h5]
              simp [newRow]
          · have hlt : ¬ A w.heap.size := fun ha => Nat.lt_irrefl _ (hA _ ha)
            obtain ⟨vs, hm, hvs'⟩ := mem_of_row (h6.mono (Stp.below hbel) fun _ _ h => h) hb hlt
            have hyl' : ys.length = len := by simpa using hyl
            have := Rep.slc β s ys w.heap.size 0 ys.length vs hm (Nat.le_refl _) hvs'
            rw [hyl'] at this
            unfold bslEnd
            split
            · exact .nils _ _
            · exact this
        · cases hc

theorem ld_good {o : Oper} {t : TypeId} {x : Operand} (ho : o.op = .load t x) {op : IOp} {e : Env} {H : List Blk} {K : SV → Prop} (hc : cop P o = some op) (h : pop P op e H K) : ∃ sv, K sv ∧ Good P o e H sv := by
  simp only [cop, ho] at hc
  cases hs : szOf P t with
  | none => simp [hs] at hc
  | some s =>
    cases hag : aggOf P t with
    | none => simp [hs, hag] at hc
    | some ag =>
      simp only [hs, hag, Option.some.injEq] at hc
      subst hc
      simp only [pop, ldK] at h
      have fin : ∀ {w : World} {A : Nat → Prop} {β : List (Option Nat)} {a : Act} {sv : SV} {ad : Addr}, a.eval x = .pointer (some ad) → (∃ v, (loadVar t ad).run P w = .ok v w ∧ Rep w A β sv v) → ∃ v, (execOp a.eval o).run P w = .ok (.value v) w ∧ Rep w A β sv v := by
        intro w A β a sv ad he ⟨v, h1, h2⟩
        exact ⟨v, by simp [execOp, ho, Instr.loadAt, Instr.sureAddr, he, h1], h2⟩
      have hx : x ∈ o.op.operands := by simp [ho, Op.operands]
      split at h
      · rename_i cells j he
        obtain ⟨sv, hK, hp⟩ := partK_ex h
        refine ⟨sv, hK, good_of fun w A β a hW hr => ?_⟩
        have hrep := eval_rep hr hx he
        generalize hav : a.eval x = v at hrep
        cases hrep
        rename_i b off vs hm hcs
        refine fin hav ?_
        obtain ⟨⟨cs, T, fr, hb, hcell⟩, hA, _⟩ := hm
        obtain ⟨u, h1, h2⟩ := part_load hs hag (A := A) (β := []) hp hb (base := off) fun j c hc => by
          have hj : j < cells.length := (List.getElem?_eq_some_iff.1 hc).1
          have := hcell 0 cells j (by simp) hj
          simp only [Nat.zero_mul, Nat.add_zero] at this
          exact ⟨_, this, hcs j c hc⟩
        exact ⟨u, h1, h2.more _ fun k b h => by simp at h⟩
      · rename_i k wd i j he
        split at h
        · rename_i cells hk
          obtain ⟨sv, hK, hp⟩ := partK_ex h
          refine ⟨sv, hK, good_of fun w A β a hW hr => ?_⟩
          have hrep := eval_rep hr hx he
          generalize hav : a.eval x = v at hrep
          cases hrep
          rename_i b hb
          refine fin hav ?_
          obtain ⟨cs, T, h1, h2, h3⟩ := hW.blk k (some b) _ hb hk
          have := part_load hs hag (A := A) (β := β) hp h1 (base := 0) fun j c hc => by
            have hj : j < cs.length := by rw [h2]; exact (List.getElem?_eq_some_iff.1 hc).1
            exact ⟨cs[j], by simp [hj], h3 j c _ hc (by simp [hj])⟩
          simpa using this
        · rename_i wd' xs hk
          obtain ⟨rfl, x', hx', h⟩ := h
          obtain ⟨sv, hK, hp⟩ := partK_ex h
          refine ⟨sv, hK, good_of fun w A β a hW hr => ?_⟩
          have hrep := eval_rep hr hx he
          generalize hav : a.eval x = v at hrep
          cases hrep
          rename_i b hb
          refine fin hav ?_
          obtain ⟨cs, T, h1, h2, h3⟩ := hW.blk k (some b) _ hb hk
          obtain ⟨hl, h4⟩ := h3 i x' hx'
          obtain ⟨u, h5, h6⟩ := part_load hs hag (A := A) (β := []) hp h1 (base := i * wd') fun j c hc => by
            obtain ⟨v, h7, h8⟩ := h4 j c hc
            exact ⟨v, by simpa using h7, h8⟩
          exact ⟨u, h5, h6.more _ fun k b h => by simp at h⟩
        · exact h.elim
      · exact h.elim

theorem fd_good {o : Oper} {t : TypeId} {x : Operand} {i : Nat} (ho : o.op = .field t x i) {op : IOp} {e : Env} {H : List Blk} {K : SV → Prop} (hc : cop P o = some op) (h : pop P op e H K) : ∃ sv, K sv ∧ Good P o e H sv := by
  simp only [cop, ho] at hc
  split at hc
  · rename_i fields hu
    split at hc
    · rename_i f hf
      split at hc
      · rename_i s ag hs hag
        cases hc
        simp only [pop] at h
        split at h
        · rename_i fs he
          obtain ⟨sv, hK, hp⟩ := partK_ex h
          refine ⟨sv, hK, good_of fun w A β a hW hr => ?_⟩
          have hrep := eval_rep hr (show x ∈ o.op.operands by simp [ho, Op.operands]) he
          generalize hav : a.eval x = v at hrep
          cases hrep
          rename_i vs hl hh
          obtain ⟨u, h1, h2⟩ := part_field (w := w) hs hag hp ⟨hl, hh⟩
          exact ⟨u, by simp [execOp, ho, Instr.field, run_under hu, hf, hav, asAgg, h1], h2⟩
        · exact h.elim
      · cases hc
    · cases hc
  · cases hc

theorem fa_good {o : Oper} {t : TypeId} {x : Operand} {i : Nat} (ho : o.op = .fieldAddr t x i) {op : IOp} {e : Env} {H : List Blk} {K : SV → Prop} (hc : cop P o = some op) (h : pop P op e H K) : ∃ sv, K sv ∧ Good P o e H sv := by
  simp only [cop, ho] at hc
  split at hc
  · rename_i fields hu
    split at hc
    · rename_i f hf
      obtain ⟨s, hs, hc⟩ := Option.bind_eq_some_iff.1 hc
      split at hc
      · cases hc
      · rename_i hs0
        cases hc
        have run : ∀ {w : World} {a : Act} {b off : Nat}, a.eval x = .pointer (some ⟨b, off, none⟩) → (execOp a.eval o).run P w = .ok (.value (.pointer (some ⟨b, off + f.offset, none⟩))) w := by
          intro w a b off he
          simp [execOp, ho, Instr.fieldAt, run_under hu, hf, he, Instr.sureAddr, fieldPlace, run_size hs, hs0, addr_add]
        simp only [pop] at h
        split at h
        · rename_i k wd i j he
          refine ⟨_, h, good_of fun w A β a hW hr => ?_⟩
          have hrep := eval_rep hr (show x ∈ o.op.operands by simp [ho, Op.operands]) he
          generalize hav : a.eval x = v at hrep
          cases hrep
          rename_i b hb
          exact ⟨_, run hav, by rw [Nat.add_assoc]; exact .ptr _ _ _ _ _ _ hb⟩
        · rename_i cells j he
          refine ⟨_, h, good_of fun w A β a hW hr => ?_⟩
          have hrep := eval_rep hr (show x ∈ o.op.operands by simp [ho, Op.operands]) he
          generalize hav : a.eval x = v at hrep
          cases hrep
          rename_i b off vs hm hcs
          exact ⟨_, run hav, by rw [Nat.add_assoc]; exact .box _ _ _ _ _ vs hm hcs⟩
        · exact h.elim
    · cases hc
  · cases hc

end
end Go.Proofs.Ytefciekodhpefaa
