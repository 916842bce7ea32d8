/- Copy, calls; all operations in one. -/
import Derived.Test.YtefciekodhpefaaSk
import Derived.Test.YtefciekodhpefaaSr
namespace Go.Proofs.Ytefciekodhpefaa
open Go.RowKit

section
variable {P : Program} {w0 : World} {A0 : Nat → Prop} {β0 : List (Option Nat)} {M : Nat} {ks : List Nat} {w : World} {A : Nat → Prop} {β : List (Option Nat)} {H : List Blk}
variable {o : Oper} {op : IOp} {e : Env} {K : SV → Env → List Blk → Prop} {a : Act}

theorem set_same {α : Type} {l : List α} {k : Nat} {x : α} (h : l[k]? = some x) : l.set k x = l := by
  apply List.ext_getElem?
  intro p
  by_cases hp : k = p
  · subst hp; rw [List.getElem?_set_self (List.getElem?_eq_some_iff.1 h).1, h]
  · rw [List.getElem?_set_ne hp]

theorem cp_rel {c : Call} {x y : Operand} (ho : o.op = .call c) (hcl : c.callee = .builtin .copy) (hargs : c.args.toList = [x, y]) {el el' : TypeId} (ht : c.argTypes.toList.map P.underlying = [some (.slice el), some (.slice el')]) {wd : Nat} (hs : szOf P el = some wd) (hs0 : 0 < wd)
    (h : xop P M ks (.cp wd (cOpd x) (cOpd y)) e H K) (hcur : Cur w0 A0 β0 M ks w A β H) (henv : EnvRel w A β e a.tmps) : rel P o a w (Then K w0 A0 β0 M ks a.tmps) := by
  obtain ⟨t, tx, hts, hu⟩ : ∃ t tx, c.argTypes.toList = [t, tx] ∧ P.underlying t = some (.slice el) := by
    cases h : c.argTypes.toList with
    | nil => simp [h] at ht
    | cons t l => cases l with
      | nil => simp [h] at ht
      | cons t' l => cases l <;> simp [h] at ht; exact ⟨t, t', rfl, ht.1⟩
  have hts' : c.argTypes = #[t, tx] := by apply Array.ext'; simpa using hts
  have hargs' : c.args = #[x, y] := by apply Array.ext'; simpa using hargs
  have run : ∀ {w' : World} {v : Value}, (Builtin.copy_ #[t, tx] o.type #[a.eval x, a.eval y]).run P w = .ok v w' → (execOp a.eval o).run P w = .ok (.value v) w' := by
    intro w' v h
    simp [execOp, ho, resolve, hcl, hargs', hts', invoke, builtin, h]
  simp only [xop] at h
  obtain ⟨ys, h, hys⟩ := elems_ex h
  have hyr := ev_rep (e := e) (a := a) (w := w) (A := A) (β := β) y fun t _ => henv t
  have hxr := ev_rep (e := e) (a := a) (w := w) (A := A) (β := β) x fun t _ => henv t
  split at h
  · rename_i k wd' i0 n hx
    split at h
    · rename_i wd'' xs hblk
      obtain ⟨rfl, rfl, hle, hsc, hK⟩ := h
      obtain ⟨ad, cy, news, hyv, hnl, hrow, hone, hsrc⟩ := hys w A β _ hs0 hcur.rel hyr hsc
      rw [hx] at hxr
      generalize hav : a.eval x = v at hxr
      -- what is read
      have hfirst : (Builtin.firstCells wd'' (Nat.min ys.length n) (.slice ad ys.length cy)).run P w = .ok (news.take (Nat.min ys.length n * wd'')).toArray w := by
        rcases hsrc with ⟨rfl, rfl, rfl⟩ | ⟨rfl, rfl⟩ | ⟨b, off, rfl, hcell⟩
        · have : Nat.min ([] : List (List SV)).length n = 0 := by simp
          rw [this]
          simpa using run_firstCells_none w wd'' 0 _ cy
        · have : Nat.min ([] : List (List SV)).length n = 0 := by simp
          rw [this]
          cases ad with
          | none => simpa using run_firstCells_none w wd'' 0 _ cy
          | some ad => simpa using run_firstCells_some w wd'' 0 ad _ cy [] (by simp) fun j v h => by simp at h
        · refine run_firstCells_some w wd'' _ _ _ cy _ ?_ fun j v hj => ?_
          · rw [List.length_take, hnl]
            exact Nat.min_eq_left (Nat.mul_le_mul_right _ (Nat.min_le_left _ _))
          · rw [addr_add]
            have hj' := (List.getElem?_eq_some_iff.1 hj).1
            rw [List.length_take] at hj'
            rw [List.getElem?_take_of_lt (by omega)] at hj
            exact hcell j v hj
      generalize hn : n = n' at hxr
      cases hxr with
      | oslZ _ _ _ _ ad' =>
        subst hn
        have h0 : Nat.min ys.length 0 = 0 := Nat.min_zero _
        rw [h0] at hfirst
        have hrun : (Builtin.copy_ #[t, tx] o.type #[a.eval x, a.eval y]).run P w = .ok (goInt 0) w := by
          rw [hav, hyv]
          simp only [Nat.zero_mul, List.take_zero] at hfirst
          simp only [Builtin.copy_, List.getElem?_toArray, List.getElem?_cons_zero, List.getElem?_cons_succ, Sem.run_bind, run_under hu, Result.andThen_ok, Builtin.lenOf, Sem.run_pure, run_size hs, h0, hfirst]
          cases ad' <;> simp [storeCells]
        refine rel_value (run hrun) ⟨_, _, _, A, β, hK, ?_, henv, ?_⟩
        · have : xs.take i0 ++ (ys.take 0 ++ xs.drop (i0 + min ys.length 0)) = xs := by simp
          rw [this, set_same hblk]; exact hcur
        · have : (min ys.length 0 : Nat) = 0 := by simp
          rw [this]; exact .int _ _ _
      | osl _ _ _ _ _ b cap hkb hcap hsz =>
        subst hn
        obtain ⟨cs, T, hb, hcl', hcs⟩ := hcur.rel.blk k (some b) _ hkb hblk
        have hmin : Nat.min ys.length n = min ys.length n := rfl
        have hm1 : min ys.length n ≤ n := Nat.min_le_right _ _
        have hm2 : min ys.length n ≤ ys.length := Nat.min_le_left _ _
        have hnl' : (news.take (min ys.length n * wd'')).length = min ys.length n * wd'' := by
          rw [List.length_take, hnl]; exact Nat.min_eq_left (Nat.mul_le_mul_right _ hm2)
        have hcsz : i0 * wd'' + min ys.length n * wd'' ≤ cs.length := by
          rw [← Nat.add_mul]
          exact Nat.le_trans (Nat.mul_le_mul_right _ (by omega)) hcl'
        have hl : (cs.take (i0 * wd'') ++ (news.take (min ys.length n * wd'') ++ cs.drop (i0 * wd'' + min ys.length n * wd''))).length = cs.length := by
          simp only [List.length_append, hnl', List.length_take, List.length_drop]; omega
        obtain ⟨hfrm, _⟩ := setRow_frm (cs' := (cs.take (i0 * wd'') ++ (news.take (min ys.length n * wd'') ++ cs.drop (i0 * wd'' + min ys.length n * wd'')))) hb hl k hkb
        have hstp := hfrm.stp hcur.own
        have hst := run_storeCells_at P b (i0 * wd'') T (news.take (min ys.length n * wd'')) 0 cs.toArray w hb (by rw [hnl']; simpa using hcsz) (fun v hv => hone v (List.mem_of_mem_take hv))
        simp only [Nat.add_zero, List.append_assoc, hnl'] at hst
        have hrun : (Builtin.copy_ #[t, tx] o.type #[a.eval x, a.eval y]).run P w = .ok (goInt (min ys.length n : Nat)) (w.setRow b (cs.take (i0 * wd'') ++ (news.take (min ys.length n * wd'') ++ cs.drop (i0 * wd'' + min ys.length n * wd''))).toArray) := by
          rw [hav, hyv]
          simp only [Builtin.copy_, List.getElem?_toArray, List.getElem?_cons_zero, List.getElem?_cons_succ, Sem.run_bind, run_under hu, Result.andThen_ok, Builtin.lenOf, Sem.run_pure, run_size hs, hfirst, hmin]
          rw [hst]
          rfl
        refine rel_value (run hrun) ⟨_, _, _, A, β, hK, hcur.set hkb hb hl ?_, henv.mono hstp (fun _ _ h => h) (fun _ _ h => h), .int _ _ _⟩
        -- the row behind it
        have hi0 : (xs.take i0).length = i0 := by simp; omega
        have hrow1 : Row w A wd'' (xs.take i0) (cs.take (i0 * wd'')) := by
          have h1 : Row w A wd'' (xs.take i0) cs := ⟨by rw [hi0]; omega, fun p x'' hp => by
            have hlt : p < i0 := by rw [← hi0]; exact (List.getElem?_eq_some_iff.1 hp).1
            rw [List.getElem?_take_of_lt hlt] at hp
            exact hcs p x'' hp⟩
          have := (row_take h1).1
          rwa [hi0] at this
        have hrow2 : Row w A wd'' (ys.take n) (news.take (min ys.length n * wd'')) := by
          have hyl : (ys.take n).length = min ys.length n := by simp; omega
          have h1 : Row w A wd'' (ys.take n) news := ⟨by rw [hyl, hnl]; exact Nat.mul_le_mul_right _ hm2, fun p x'' hp => by
            have hlt : p < min ys.length n := by rw [← hyl]; exact (List.getElem?_eq_some_iff.1 hp).1
            rw [List.getElem?_take_of_lt (by omega)] at hp
            exact hrow.2 p x'' hp⟩
          have := (row_take h1).1
          rwa [hyl] at this
        have hyl : (ys.take n).length = min ys.length n := by simp; omega
        have hall := row_append (rest := cs.drop (i0 * wd'' + min ys.length n * wd'')) hrow1 (by rw [hi0, List.length_take]; omega) hrow2 (by rw [hyl]; exact hnl')
        refine ⟨_, T, setRow_heap w b _ _ _ _ hb, ?_, fun p x'' hp => ?_⟩
        · rw [hl]
          refine Nat.le_trans ?_ hcl'
          apply Nat.mul_le_mul_right
          simp; omega
        · by_cases hpm : p < i0 + min ys.length n
          · have hp' : (xs.take i0 ++ ys.take n)[p]? = some x'' := by
              rw [← List.append_assoc, List.getElem?_append_left (by rw [List.length_append, hi0, hyl]; exact hpm)] at hp
              exact hp
            have h1 := hall.2 p x'' hp'
            exact ⟨h1.1, fun q cc hq => by
              obtain ⟨u, hu1, hu2⟩ := h1.2 q cc hq
              exact ⟨u, hu1, hu2.mono hstp (fun _ _ h => h)⟩⟩
          · have hp' : xs[p]? = some x'' := by
              rw [← List.append_assoc, List.getElem?_append_right (by rw [List.length_append, hi0, hyl]; omega), List.length_append, hi0, hyl, List.getElem?_drop] at hp
              rw [← hp]; congr 1; omega
            refine ⟨(hcs p x'' hp').1, fun q cc hq => ?_⟩
            obtain ⟨u, hu1, hu2⟩ := (hcs p x'' hp').2 q cc hq
            refine ⟨u, ?_, hu2.mono hstp (fun _ _ h => h)⟩
            have hge : i0 * wd'' + min ys.length n * wd'' ≤ p * wd'' := by
              rw [← Nat.add_mul]; exact Nat.mul_le_mul_right _ (by omega)
            have htl : (cs.take (i0 * wd'')).length = i0 * wd'' := by rw [List.length_take]; exact Nat.min_eq_left (by omega)
            rw [← List.append_assoc, List.getElem?_append_right (by rw [List.length_append, hnl', htl]; omega), List.length_append, hnl', htl, List.getElem?_drop]
            rw [← hu1]; congr 1; omega
    · exact h.elim
  · exact h.elim

theorem shiftH_get (m : Nat) : ∀ (H : List Blk) (i : Nat), (shiftH m H)[i]? = (H[i]?).map (Blk.shift m)
  | [], i => by simp [shiftH]
  | b :: H, 0 => by simp [shiftH]
  | b :: H, i + 1 => by simp [shiftH, shiftH_get m H i]
theorem shiftH_length (m : Nat) : ∀ H : List Blk, (shiftH m H).length = H.length
  | [] => rfl
  | b :: H => by simp [shiftH, shiftH_length m H]

/-- Behind a call that hands over new blocks. -/
theorem Cur.join {w1 : World} {γ : List (Option Nat)} {Hn : List Blk} (h : Cur w0 A0 β0 M ks w A β H) (hb : Below w.heap.size w w1) (hW : WRel w1 (fun b => A b ∨ some b ∈ γ) γ Hn) (hnew : ∀ b, some b ∈ γ → w.heap.size ≤ b) :
    Cur w0 A0 β0 M ks w1 (fun b => A b ∨ some b ∈ γ) (β ++ γ) (H ++ shiftH H.length Hn) := by
  have hlt : ∀ (k c : Nat), β[k]? = some (some c) → c < w.heap.size := fun k c hk => (h.rel.own k c hk).2
  have hkl : ∀ k, k < β.length → (β ++ γ)[k]? = β[k]? := fun k hk => List.getElem?_append_left hk
  have hkr : ∀ k, ¬ k < β.length → (β ++ γ)[k]? = γ[k - β.length]? := fun k hk => List.getElem?_append_right (by omega)
  have hge : ∀ (k c : Nat), γ[k]? = some (some c) → w.heap.size ≤ c := fun k c hk => hnew c (List.mem_of_getElem? hk)
  have w0le := h.frm.size
  refine ⟨⟨by rw [List.length_append, List.length_append, shiftH_length, h.rel.len, hW.len], fun k k' c hk hk' => ?_, fun k c hk => ?_, fun k o bk ho hbk => ?_⟩, fun c hc => ?_, h.frm.step (Frm.below hb) h.fresh, fun c hc => ?_, fun k c hk hc => ?_, fun k hk hn => ?_, by simp; have := h.more; omega⟩
  · by_cases e : k < β.length <;> by_cases e' : k' < β.length
    · rw [hkl k e] at hk; rw [hkl k' e'] at hk'; exact h.rel.inj k k' c hk hk'
    · rw [hkl k e] at hk; rw [hkr k' e'] at hk'; have := hlt k c hk; have := hge _ c hk'; omega
    · rw [hkr k e] at hk; rw [hkl k' e'] at hk'; have := hlt k' c hk'; have := hge _ c hk; omega
    · rw [hkr k e] at hk; rw [hkr k' e'] at hk'; have := hW.inj _ _ c hk hk'; omega
  · by_cases e : k < β.length
    · rw [hkl k e] at hk; exact ⟨.inl (h.rel.own k c hk).1, Nat.lt_of_lt_of_le (hlt k c hk) hb.size⟩
    · rw [hkr k e] at hk; exact hW.own _ c hk
  · by_cases e : k < β.length
    · rw [hkl k e] at ho
      rw [List.getElem?_append_left (by rw [← h.rel.len]; exact e)] at hbk
      refine (h.rel.blk k o bk ho hbk).keep (Stp.below hb) (fun c hc ha => ha.resolve_right fun hm => by have := hnew c hm; omega) (fun k' c hc => ?_) (fun c hc => hb.block c (hlt k c (by rw [ho, hc])))
      rw [hkl k' (List.getElem?_eq_some_iff.1 hc).1]; exact hc
    · rw [hkr k e] at ho
      rw [List.getElem?_append_right (by rw [← h.rel.len]; omega), shiftH_get] at hbk
      obtain ⟨bk', hbk', rfl⟩ := Option.map_eq_some_iff.1 hbk
      rw [← h.rel.len] at hbk'
      rw [← h.rel.len]
      exact (hW.blk _ o bk' ho hbk').shift β
  · rcases hc with hc | hc
    · exact Nat.lt_of_lt_of_le (h.fin c hc) hb.size
    · obtain ⟨k, hk, he⟩ := List.getElem_of_mem hc
      exact (hW.own k c (by simp [hk, he])).2
  · exact ⟨fun hc' => (h.agree c hc).1 (hc'.resolve_right fun hm => by have := hnew c hm; omega), fun hc' => .inl ((h.agree c hc).2 hc')⟩
  · by_cases e : k < β.length
    · rw [hkl k e] at hk; exact h.fresh k c hk hc
    · rw [hkr k e] at hk; have := hge _ c hk; omega
  · have := h.more
    rw [hkl k (by omega)]; exact h.same k hk hn

theorem EnvRel.kills {w w' : World} {A A' : Nat → Prop} {β γ : List (Option Nat)} {tmps : Array Value} (s : Stp A w w') (hA : ∀ b, b < w.heap.size → A' b → A b) : ∀ (js : List Nat) (e : Env), EnvRel w A β e tmps → (∀ (j b : Nat), j ∉ js → β[j]? = some (some b) → γ[j]? = some (some b)) → EnvRel w' A' γ (killEs js e) tmps
  | [], e, h, hg => h.mono s hA fun k b hk => hg k b (by simp) hk
  | k :: js, e, h, hg => by
    have hcut : ∀ (j b : Nat), (β.set k none)[j]? = some (some b) → j ≠ k ∧ β[j]? = some (some b) := fun j b hj => by
      by_cases hjk : j = k
      · subst hjk
        by_cases hl : j < β.length
        · rw [List.getElem?_set_self hl] at hj; simp at hj
        · rw [List.getElem?_eq_none (by simp; omega)] at hj; cases hj
      · rw [List.getElem?_set_ne (Ne.symm hjk)] at hj; exact ⟨hjk, hj⟩
    have h1 : EnvRel w A (β.set k none) (killE k e) tmps := h.kill (Stp.refl _ _) (fun _ _ h => h) k fun j b hj hb => by rw [List.getElem?_set_ne (Ne.symm hj)]; exact hb
    exact EnvRel.kills s hA js (killE k e) h1 fun j b hj hb => hg j b (by simp [(hcut j b hb).1, hj]) (hcut j b hb).2

theorem call_rel {c : Call} {f : Operand} (ho : o.op = .call c) (hf : c.callee = .value f) (h : xop P M ks (.call (cOpd f) (c.args.toList.map cOpd)) e H K) (hcur : Cur w0 A0 β0 M ks w A β H) (henv : EnvRel w A β e a.tmps) : rel P o a w (Then K w0 A0 β0 M ks a.tmps) := by
  simp only [xop] at h
  split at h
  · rename_i g caps hfn
    have hr' : ∀ x, x ∈ o.op.operands → Rep w A β (ev e (cOpd x)) (a.eval x) := fun x hx => ev_rep x fun t _ => henv t
    have hfrep := hr' f (by simp [ho, Op.operands, Call.operands, hf])
    have hfe : ev e (cOpd f) = .fn g caps := by
      unfold fnsOf at hfn; split at hfn
      · rename_i g' caps' he; cases hfn; exact he
      · cases hfn
    rw [hfe] at hfrep
    generalize hav : a.eval f = v at hfrep
    cases hfrep
    rename_i vs hl hh
    have hargs := map_reps (e := e) (a := a) c.args.toList fun x hx => hr' x (by simp [ho, Op.operands, Call.operands, hf]; exact .inr (by simpa using hx))
    have hall := reps_append hargs ⟨hl, hh⟩
    have hrun : (∀ vs w, (callFunc g vs).run P w = .ok (.enter g vs) w) → (execOp a.eval o).run P w = .ok (.enter g (c.args.toList.map a.eval ++ vs).toArray) w := by
      intro hcall
      simp only [execOp, ho, resolve, hf, hav, Deferred.ofValue, Sem.run_bind, Sem.run_pure, Result.andThen_ok, invoke]
      have : (#[] ++ c.args.map a.eval ++ vs.toArray) = (c.args.toList.map a.eval ++ vs).toArray := by
        apply Array.ext'; simp
      rw [this]
      exact hcall _ _
    rcases h with ⟨hp, res, hFS, hK⟩ | ⟨hp, res, Hn, hFO, hK⟩ | h | ⟨res, H', js, hHS, hjs, hK⟩ | h
    · unfold rel
      rw [hrun hFS.1]
      have hall' := reps_purely hall hp []
      refine (hFS.2 w A _ hcur.fin hall'.1 hall'.2).mono ?_
      rintro e' w' ⟨v, rfl, hb, hrep⟩
      exact ⟨v, rfl, _, _, _, A, β, hK, hcur.below hb, henv.mono (Stp.below hb) (fun _ _ h => h) (fun _ _ h => h), hrep.more _ fun k b h => by simp at h⟩
    · unfold rel
      rw [hrun hFO.1]
      have hall' := reps_purely hall hp []
      refine (hFO.2 w A _ hcur.fin hall').mono ?_
      rintro e' w' ⟨v, γ, rfl, hb, hW, hnew, hrep⟩
      refine ⟨v, rfl, _, _, _, _, β ++ γ, hK, hcur.join hb hW hnew, henv.mono (Stp.below hb) (fun c hc ha => ha.resolve_right fun hm => by have := hnew c hm; omega) append_get, ?_⟩
      rw [← hcur.rel.len]
      exact hrep.shift β
    · obtain ⟨sv, hK, hg⟩ := call_good ho hf (e := e) (H := H) (K := fun sv => K sv e H) (by simp only [pop, hfn]; exact .inr h)
      refine rel_mono (hg w A β a hcur.fin hcur.rel.wb fun t _ => henv t) fun v w' ⟨hb, hr⟩ => ?_
      exact ⟨sv, e, H, A, β, hK, hcur.below hb, henv.mono (Stp.below hb) (fun _ _ h => h) (fun _ _ h => h), hr⟩
    · unfold rel
      rw [hrun hHS.1]
      refine (hHS.2 w A β _ hcur.fin hcur.rel hall).mono ?_
      rintro e' w' ⟨v, A', β', rfl, hfrm, hfin, hW, hag, hfr, hsame, hmore, hrep⟩
      refine ⟨v, rfl, _, _, _, A', β', hK, ⟨hW, hfin, hcur.frm.step hfrm hcur.fresh, fun b hb => ?_, fun k b hk hb => ?_, fun k hk hn => ?_, Nat.le_trans hcur.more hmore⟩, ?_, hrep⟩
      · exact (hag b (Nat.lt_of_lt_of_le hb hcur.frm.size)).trans (hcur.agree b hb)
      · have := hfr k b hk (Nat.lt_of_lt_of_le hb hcur.frm.size)
        obtain ⟨i, hi, he⟩ := List.getElem_of_mem this
        exact hcur.fresh i b (by simp [hi, he]) hb
      · rw [hsame k (Nat.lt_of_lt_of_le hk hcur.more) fun hm => hn (hjs k hm)]
        exact hcur.same k hk hn
      · refine EnvRel.kills (hfrm.stp hcur.own) (fun b hb ha => (hag b hb).1 ha) js e henv fun j b hj hb => ?_
        rw [hsame j (List.getElem?_eq_some_iff.1 hb).1 hj]; exact hb
    · obtain ⟨ys, ⟨res, Hn, hFO, hlo, hlo2, hK⟩, hz⟩ := frzs_reps h hcur.rel.wb hall
      unfold rel
      rw [hrun hFO.1]
      refine (hFO.2 w _ _ (fun b hb => hcur.fin b hb.1) hz).mono ?_
      rintro e' w' ⟨v, γ, rfl, hb, hW, hnew, hrep⟩
      have hW' : WRel w' (fun b => A b ∨ some b ∈ γ) γ Hn := ⟨hW.len, hW.inj, fun k b hk => ⟨.inr (List.mem_of_getElem? hk), (hW.own k b hk).2⟩, fun k o blk ho hbk => (hW.blk k o blk ho hbk).loosely (hlo2 blk (List.mem_of_getElem? hbk)) _⟩
      refine ⟨v, rfl, _, _, _, _, β ++ γ, hK, hcur.join hb hW' hnew, henv.mono (Stp.below hb) (fun c hc ha => ha.resolve_right fun hm => by have := hnew c hm; omega) append_get, ?_⟩
      rw [← hcur.rel.len]
      exact (hrep.loosely hlo _).shift β
  · exact h.elim

/-- **AN OPERATION, WHATEVER IT DOES.** -/
theorem xop_rel (hc : cop P o = some op) (h : xop P M ks op e H K) (hcur : Cur w0 A0 β0 M ks w A β H) (henv : EnvRel w A β e a.tmps) : rel P o a w (Then K w0 A0 β0 M ks a.tmps) := by
  have still : (pop P op e H fun sv => K sv e H) → rel P o a w (Then K w0 A0 β0 M ks a.tmps) := fun h => by
    obtain ⟨sv, hK, hg⟩ := pop_sound hc h
    refine rel_mono (hg w A β a hcur.fin hcur.rel.wb fun t _ => henv t) fun v w' ⟨hb, hr⟩ => ?_
    exact ⟨sv, e, H, A, β, hK, hcur.below hb, henv.mono (Stp.below hb) (fun _ _ h => h) (fun _ _ h => h), hr⟩
  cases hop : o.op with
  | alloc t =>
    simp only [cop, hop] at hc
    obtain ⟨z, hz, rfl⟩ := Option.map_eq_some_iff.1 hc
    exact al_rel hop hz h hcur henv
  | box t x =>
    simp only [cop, hop, Option.some.injEq] at hc; subst hc
    simp only [xop] at h
    split at h
    · rename_i fs hfs; exact bx_rel hop hfs h hcur henv
    · exact h.elim
  | store t x y =>
    simp only [cop, hop] at hc
    obtain ⟨s, hs, rfl⟩ := Option.map_eq_some_iff.1 hc
    exact st_rel hop hs h hcur henv
  | makeSlice t l c =>
    simp only [cop, hop] at hc
    split at hc
    · rename_i el hu
      split at hc
      · rename_i i z hi hz
        split at hc
        · rename_i hcond
          cases hc
          exact mk_rel hop hu hi hz hcond.1 hcond.2 h hcur henv
        · cases hc
      · cases hc
    · cases hc
  | call c =>
    have hc' := hc
    simp only [cop, hop] at hc
    split at hc
    · rename_i f hf
      cases hc
      exact call_rel hop hf h hcur henv
    · cases hc
    · rename_i b hb
      split at hc
      · cases hc; exact still h
      · cases hc; exact still h
      · cases hc; exact still h
      · cases hc; exact still h
      · rename_i x y el el' hargs hts
        split at hc
        · rename_i i z hi hz
          split at hc
          · rename_i hcond
            cases hc
            exact ap_rel hop hb hargs hts hi hz hcond.1 hcond.2 h hcur henv
          · cases hc
        · cases hc
      · rename_i x y el el' hargs hts
        split at hc
        · rename_i s hs
          split at hc
          · rename_i hpos
            cases hc
            exact cp_rel hop hb hargs hts hs hpos h hcur henv
          · cases hc
        · cases hc
      · cases hc; exact still h
  | _ =>
    refine still ?_
    cases op <;> first | exact h | (exfalso; simp only [cop, hop] at hc; (repeat' split at hc) <;> simp_all [Option.map_eq_some_iff, Option.bind_eq_some_iff])

end
end Go.Proofs.Ytefciekodhpefaa
