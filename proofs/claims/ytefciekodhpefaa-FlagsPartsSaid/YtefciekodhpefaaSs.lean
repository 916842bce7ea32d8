/- A region that draws its order: the law. -/
import Derived.Test.YtefciekodhpefaaSr
namespace Go.Proofs.Ytefciekodhpefaa
open Go.RowKit

section
variable {γ : Type} {P : Program} {ops : Array Oper} {R : World × γ → World × γ → Prop} {U : Nat → World × γ → Prop} {s0 : World × γ} {md : Region.Mode} {Q : Exit → Act → World → Prop} {m : Nat}

theorem freeB_spec {i : Nat} {o : Oper} (h : Oper.freeB md ops i o = true) : o.guard = none ∧ (∀ e ∈ o.after, Region.binds md e = false) ∧ (∃ x, o.op = .move x) ∧ (∃ d, o.dst = some d) ∧
    ∀ (j : Nat) (oj : Oper), ops[j]? = some oj → j ≠ i → (∃ e ∈ oj.after, Region.binds md e = true ∧ e.on = i) ∨ o.apart ops oj = true := by
  simp only [Oper.freeB, Bool.and_eq_true] at h
  obtain ⟨⟨⟨⟨h1, h2⟩, h3⟩, h4⟩, h5⟩ := h
  refine ⟨by simpa using h1, fun e he => ?_, ?_, Option.isSome_iff_exists.1 h4, fun j oj hj hji => ?_⟩
  · have := Array.all_eq_true_iff_forall_mem.1 h2 e he
    simpa using this
  · split at h3
    · exact ⟨_, by assumption⟩
    · cases h3
  · have hjs : j < ops.size := (Array.getElem?_eq_some_iff.1 hj).1
    have := List.all_eq_true.1 h5 j (List.mem_range.2 hjs)
    simp only [hj, Bool.or_eq_true, decide_eq_true_eq] at this
    rcases this with h | h | h
    · exact absurd h hji
    · obtain ⟨e, he, hb⟩ := Array.any_eq_true'.1 h
      simp only [Bool.and_eq_true, beq_iff_eq] at hb
      exact .inl ⟨e, he, hb.1, hb.2⟩
    · exact .inr h

theorem freeE_spec {n i : Nat} (h : i ∈ freeE md ops n) : i < n ∧ ∃ o, ops[i]? = some o ∧ Oper.freeB md ops i o = true := by
  simp only [freeE, List.mem_filter, List.mem_range] at h
  refine ⟨h.1, ?_⟩
  have h2 := h.2
  split at h2
  · exact ⟨_, by assumption, h2⟩
  · cases h2

theorem eval_unwritten {o : Oper} {d : Tmp} {v : Value} {x : Operand} (hx : o.op = .move x) (h : d ∉ o.looksAt ops) (a : Act) : (a.put (some d) v).eval x = a.eval x := by
  cases x with
  | tmp t =>
    have : t ∈ o.looksAt ops := List.mem_append_left _ (List.mem_filterMap.2 ⟨.tmp t, by simp [hx, Op.operands], rfl⟩)
    have hne : d ≠ t := fun e => h (e ▸ this)
    simp only [Act.eval, put_getD, hne, false_and, if_false]
  | const => rfl
  | global => rfl
  | func => rfl

/-- What the moved slots are. -/
theorem putE_spec : ∀ (E : List Nat), E.Nodup → (∀ i ∈ E, ∃ o, ops[i]? = some o ∧ Oper.freeB md ops i o = true) → ∀ a : Act, (putE ops E a).tmps.size = a.tmps.size ∧ (putE ops E a).defers = a.defers ∧
    (∀ t, (∀ i ∈ E, ∀ o, ops[i]? = some o → o.dst ≠ some t) → (putE ops E a).tmps.getD t undef = a.tmps.getD t undef) ∧
    ∀ i ∈ E, ∀ (o : Oper) (x : Operand) (t : Tmp), ops[i]? = some o → o.op = .move x → o.dst = some t → t < a.tmps.size → (putE ops E a).tmps.getD t undef = a.eval x
  | [], _, _, a => ⟨rfl, rfl, fun _ _ => rfl, fun i hi => by cases hi⟩
  | i :: E, hnd, hE, a => by
    obtain ⟨o, ho, hf⟩ := hE i (by simp)
    obtain ⟨hg, _, ⟨x, hx⟩, ⟨d, hd⟩, hap⟩ := freeB_spec hf
    have hnd' := List.nodup_cons.1 hnd
    obtain ⟨h1, h2, h3, h4⟩ := putE_spec E hnd'.2 (fun j hj => hE j (by simp [hj])) (a.put o.dst (a.eval x))
    have e : putE ops (i :: E) a = putE ops E (a.put o.dst (a.eval x)) := by simp [putE, ho, hx]
    -- a later one is apart from this one
    have apart : ∀ j ∈ E, ∀ oj, ops[j]? = some oj → o.apart ops oj = true := fun j hj oj hoj => by
      have hji : j ≠ i := fun e => hnd'.1 (e ▸ hj)
      rcases hap j oj hoj hji with ⟨e, he, hb, _⟩ | h
      · obtain ⟨oj', hoj', hfj⟩ := hE j (by simp [hj])
        rw [hoj] at hoj'
        obtain rfl := Option.some.inj hoj'
        have := (freeB_spec hfj).2.1 e he
        rw [hb] at this; cases this
      · exact h
    rw [e]
    refine ⟨by rw [h1, hd]; simp [Act.put], by rw [h2, hd]; simp [Act.put], fun t ht => ?_, fun j hj oj y t hoj hy hdj ht => ?_⟩
    · rw [h3 t fun j hj oj hoj => ht j (by simp [hj]) oj hoj, hd, put_getD, if_neg]
      intro ⟨h, _⟩
      exact ht i (by simp) o ho (by rw [hd, h])
    · rcases List.mem_cons.1 hj with rfl | hj
      · rw [ho] at hoj
        obtain rfl := Option.some.inj hoj
        rw [hx] at hy; cases hy
        rw [hd] at hdj; cases hdj
        rw [h3 d fun k hk ok hok => fun hdk => (Oper.apart_spec (apart k hk ok hok)).2.1 d hd (by rw [hdk]), hd, put_getD, if_pos ⟨rfl, ht⟩]
      · rw [h4 j hj oj y t hoj hy hdj (by rw [hd]; simpa [Act.put] using ht), hd]
        exact eval_unwritten (ops := ops) hy ((Oper.apart_spec (apart j hj oj hoj)).1 d hd) a

theorem listE_getD : ∀ (E : List Nat) (l : Array Bool) (j : Nat) (b : Bool), (∀ i ∈ E, i < l.size) → (listE E l).size = l.size ∧ (listE E l).getD j b = if j ∈ E then true else l.getD j b
  | [], l, j, b, _ => ⟨rfl, by simp [listE]⟩
  | i :: E, l, j, b, h => by
    obtain ⟨h1, h2⟩ := listE_getD E (l.setIfInBounds i true) j b (fun k hk => by simpa using h k (by simp [hk]))
    refine ⟨by simp [listE, h1], ?_⟩
    simp only [listE, h2]
    by_cases hj : j ∈ E
    · simp [hj]
    · by_cases hij : j = i
      · subst hij
        have := h j (by simp)
        simp [this, Array.getD]
      · simp only [hj, if_false, List.mem_cons, hij, or_self]
        exact getD_set_ne b (Ne.symm hij)

theorem take_free (hsel : Region.noSelect ops = true) (hQ : ∀ c a w, ¬ Q (.panic c) a w) : ∀ (E : List Nat) (l : Array Bool) (a : Act) (w : World), E.Nodup → l.size = ops.size → (∀ i ∈ E, l.getD i true = false) → (∀ i ∈ E, ∃ o, ops[i]? = some o ∧ Oper.freeB md ops i o = true) →
    (∀ fuel, left (listE E l) = fuel → wpAnyIn Fence.wide m P md ops Q fuel (listE E l) (putE ops E a) w) → ∀ fuel, left l = fuel → wpAnyIn Fence.wide m P md ops Q fuel l a w
  | [], l, a, w, _, _, _, _, h => h
  | i :: E, l, a, w, hnd, hsz, hun, hE, h => by
    intro fuel hfuel
    obtain ⟨o, ho, hf⟩ := hE i (by simp)
    obtain ⟨hg, hafter, ⟨x, hx⟩, ⟨d, hd⟩, hap⟩ := freeB_spec hf
    have hnd' := List.nodup_cons.1 hnd
    have hui := hun i (by simp)
    have hpos : 0 < left l := by
      have hlt : i < l.size := by rw [hsz]; exact (Array.getElem?_eq_some_iff.1 ho).1
      unfold left
      apply List.length_pos_of_mem (a := false)
      refine List.mem_filter.2 ⟨?_, rfl⟩
      have : l[i] = false := by simpa [Array.getD, hlt] using hui
      rw [← this]; simp
    obtain ⟨f', rfl⟩ : ∃ f', fuel = f' + 1 := ⟨fuel - 1, by omega⟩
    have ih := take_free hsel hQ E (l.setIfInBounds i true) (a.put o.dst (a.eval x)) w hnd'.2 (by simpa using hsz) (fun j hj => by
        have hji : i ≠ j := fun e => hnd'.1 (e ▸ hj)
        rw [getD_set_ne true hji]; exact hun j (by simp [hj])) (fun j hj => hE j (by simp [hj])) (by
        have e : putE ops (i :: E) a = putE ops E (a.put o.dst (a.eval x)) := by simp [putE, ho, hx]
        rw [← e]; exact h) f' (count_step' hui f' (by unfold left at hfuel; omega))
    refine wpAnyIn_first (F := Fence.wide) rfl ho (Region.noSelect_spec hsel) (fun c a w h => absurd h (hQ _ _ _)) f' l a w (fun j oj hoj hji hunj hno => ?_) ?_ (v := a.eval x) ⟨.inl ⟨?_, fun w => ?_⟩, fun w => ?_⟩ ih
    · rcases hap j oj hoj hji with ⟨e, he, hb, hon⟩ | h
      · exact absurd hon (hno e he hb)
      · exact h
    · exact mem_ready.2 ⟨hui, o, ho, fun e he hb => by rw [hafter e he] at hb; cases hb⟩
    · simp [Region.wanted, hg]
    · simp [execOp, hx]
    · simp [Oper.about, hx]

/-- What is asked of a region by its text alone. -/
def Region.lawB (ops : Array Oper) (n N : Nat) : Bool :=
  Region.noSelect ops && Region.pairB .any ops && Region.backB .any ops && Region.dstB ops n N && (decide (n = ops.size) ||
    (decide (n < ops.size) && Region.sinkE .any ops (freeE .any ops n) n && Region.chainE .any ops n && Region.seqB .any ops (ops.size - n) n (Array.replicate n true ++ Array.replicate (ops.size - n) false)))

theorem left_replicate (n : Nat) : left (Array.replicate n false) = n := by
  unfold left
  simp

/-- **THE LAW.** -/
theorem region_law {l : List Oper} (hl : ops = l.toArray) {a : Act} {w : World} {n N : Nat} {F : Nat → Fact γ} {C0 : Tmp → Fact γ} (g0 : γ) (hs0 : s0 = (w.drew, g0)) (hrf : ∀ s, R s s) (htr : ∀ a b c, R a b → R b c → R a c)
    (hN : a.tmps.size = N) (hB : Region.lawB ops n N = true) (hQp : ∀ c a w, ¬ Q (.panic c) a w)
    (hU : ∀ k, U k s0) (hC0 : ∀ t, C0 t (a.tmps.getD t undef) s0) (hCs : ∀ t, Stable R (C0 t))
    (hO : ∀ (j : Nat) (oj : Oper), j < n → ops[j]? = some oj → Obl P ops R U s0 N a.defers (Cat ops F C0 j) j oj (F j))
    (hE : ∀ (i : Nat) (oi : Oper) (x : Operand), i < n → ops[i]? = some oi → Oper.freeB .any ops i oi = true → oi.op = .move x → F i (a.eval x) s0)
    (hQ : ∀ (a' : Act) (s : World × γ), R s0 s → a'.tmps.size = N → a'.defers = a.defers → (∀ t, t < N → Cat ops F C0 n t (a'.tmps.getD t undef) s) → wpListIn Fence.wide m P ops Q (l.drop n) a' s.1) :
    wpAnyIn Fence.wide m P .any ops Q ops.size (Array.replicate ops.size false) a { w with drawn := w.drawn + 1 } := by
  simp only [Region.lawB, Bool.and_eq_true, Bool.or_eq_true, decide_eq_true_eq] at hB
  obtain ⟨⟨⟨⟨hsel, hpair⟩, hback⟩, hdst⟩, hB⟩ := hB
  have hnsz : n ≤ ops.size := by rcases hB with h | h <;> omega
  have hEm : ∀ i ∈ freeE .any ops n, i < n ∧ ∃ o, ops[i]? = some o ∧ Oper.freeB .any ops i o = true := fun i hi => freeE_spec hi
  have hnd : (freeE .any ops n).Nodup := List.Nodup.sublist List.filter_sublist List.nodup_range
  obtain ⟨p1, p2, p3, p4⟩ := putE_spec (md := .any) (freeE .any ops n) hnd (fun i hi => (hEm i hi).2) a
  have hlE : ∀ (j : Nat) (b : Bool), (listE (freeE .any ops n) (Array.replicate ops.size false)).size = ops.size ∧ (listE (freeE .any ops n) (Array.replicate ops.size false)).getD j b = if j ∈ freeE .any ops n then true else (Array.replicate ops.size false).getD j b := fun j b => by
    have := listE_getD (freeE .any ops n) (Array.replicate ops.size false) j b (fun i hi => by have := (hEm i hi).1; simp; omega)
    simpa using this
  have hs01 : s0.1 = { w with drawn := w.drawn + 1 } := by rw [hs0]; rfl
  have inv : Inv .any ops R U s0 F a n N (listE (freeE .any ops n) (Array.replicate ops.size false)) (putE ops (freeE .any ops n) a) s0 := by
    refine ⟨⟨(hlE 0 false).1, fun j oj hoj hl e he hb => ?_, fun t ht hts => ?_⟩, hrf _, by rw [p1, hN], p2, fun i oi t hin hoi hd hl => ?_, fun t ht => ?_, fun k _ _ => hU k⟩
    · rw [(hlE j false).2] at hl
      split at hl
      · rename_i hj
        obtain ⟨_, o', ho', hf⟩ := hEm j hj
        rw [hoj] at ho'
        obtain rfl := Option.some.inj ho'
        have := (freeB_spec hf).2.1 e he
        rw [hb] at this; cases this
      · simp [Array.getD] at hl
    · rw [(hlE t true).2, if_neg]
      · simp [Array.getD, hts]
      · intro h; have := (hEm t h).1; omega
    · rw [(hlE i false).2] at hl
      split at hl
      · rename_i hi
        obtain ⟨_, o', ho', hf⟩ := hEm i hi
        rw [hoi] at ho'
        obtain rfl := Option.some.inj ho'
        obtain ⟨x, hx⟩ := (freeB_spec hf).2.2.1
        have hdN := (dst_spec hdst hin hoi).1 t hd
        rw [p4 i hi oi x t hoi hx hd (by rw [hN]; exact hdN)]
        exact hE i oi x hin hoi hf hx
      · simp [Array.getD] at hl
    · refine p3 t fun i hi o ho hd => ?_
      have := ht i o (hEm i hi).1 ho hd
      rw [(hlE i false).2, if_pos hi] at this
      cases this
  refine take_free hsel hQp (freeE .any ops n) _ a _ hnd (by simp) (fun i hi => ?_) (fun i hi => (hEm i hi).2) ?_ _ (left_replicate _)
  · have := (hEm i hi).1
    simp [Array.getD, show i < ops.size by omega]
  intro fuel hfuel
  rw [← hs01]
  rcases hB with hnEq | ⟨⟨⟨hn, hsink⟩, hchain⟩, hseq⟩
  · subst hnEq
    refine wpAny_of_inv hrf htr hpair hback hdst hC0 hCs hO (fun a' s h1 h2 h3 h4 => ?_) fuel _ _ s0 (by omega) inv
    have := hQ a' s h1 h2 h3 h4
    have hd : l.drop ops.size = [] := by rw [hl]; simp
    rw [hd] at this
    exact this
  · have hdl : (l.drop n).length = ops.size - n := by rw [hl]; simp
    have hlt : ops.size - n ≤ left (listE (freeE .any ops n) (Array.replicate ops.size false)) := by
      have h1 : ((listE (freeE .any ops n) (Array.replicate ops.size false)).toList.drop n).filter (!·) = (listE (freeE .any ops n) (Array.replicate ops.size false)).toList.drop n := by
        rw [List.filter_eq_self]
        intro x hx
        obtain ⟨k, hk, rfl⟩ := List.mem_iff_getElem.1 hx
        simp only [List.length_drop, Array.length_toList, (hlE 0 false).1] at hk
        have := inv.head.tail (n + k) (by omega) (by omega)
        have hlt : n + k < (listE (freeE .any ops n) (Array.replicate ops.size false)).size := by rw [(hlE 0 false).1]; omega
        simp only [Array.getD, hlt, dif_pos] at this
        simpa using this
      unfold left
      rw [← List.take_append_drop n (listE (freeE .any ops n) (Array.replicate ops.size false)).toList, List.filter_append, h1, List.length_append, List.length_drop]
      have hsz : (listE (freeE .any ops n) (Array.replicate ops.size false)).toList.length = ops.size := (hlE 0 false).1
      rw [hsz]
      omega
    have := wpAny_of_inv_tail (P := P) (m := m) (Q' := Q) (E := freeE .any ops n) hrf htr hpair hback hdst hC0 hCs hn hsink hchain hO (ops.size - n)
      (fun listed a' s h1 h2 h3 h4 h5 h6 => by
        have e : listed = Array.replicate n true ++ Array.replicate (ops.size - n) false := by
          refine Array.ext (by simp [h5]; omega) fun i hi hi' => ?_
          have := h6 i (by omega)
          simp only [Array.getD, hi, dif_pos] at this
          rw [Array.getElem_append]
          by_cases hin : i < n
          · simp [hin] at this ⊢
            exact this
          · simp [hin] at this ⊢
            exact this
        rw [e, ← hdl]
        exact wpAnyIn_of_seq (md := .any) (Q' := Q) (l.drop n) n _ a' s.1 (fun j => by rw [hl]; simp [List.getElem?_drop]) (by rw [hdl]; exact hseq) (hQ a' s h1 h2 h3 h4)) (fuel - (ops.size - n)) _ _ s0 (by omega) (fun i hi => by rw [(hlE i false).2, if_pos hi]) inv
    rwa [show fuel - (ops.size - n) + (ops.size - n) = fuel by omega] at this

end
end Go.Proofs.Ytefciekodhpefaa
