/- What is shown of an operation that turns nothing is what it does: the operations one by one. -/
import Derived.Test.YtefciekodhpefaaSd
import Derived.Laws.Tables
namespace Go.Proofs.Ytefciekodhpefaa
open Go.RowKit

section
variable {P : Program}

theorem bld_sound (place : Nat → Option (Nat × Nat)) (e : Env) : ∀ (parts : List (Nat × Operand)) (parts' : List (Nat × Nat × Opd)) (z : List SV) (K : SV → Prop),
    parts'.length = parts.length → (∀ (k : Nat) (p : Nat × Operand) (q : Nat × Nat × Opd), parts[k]? = some p → parts'[k]? = some q → place p.1 = some (q.1, q.2.1) ∧ q.2.2 = cOpd p.2) → bldK e z parts' K →
    ∃ zs, K (.agg zs) ∧ ∀ (w : World) (A : Nat → Prop) (β : List (Option Nat)) (a : Act) (cs : List Value), Reps w A β z cs → (∀ p ∈ parts, Rep w A β (ev e (cOpd p.2)) (a.eval p.2)) →
      ∃ cs', Instr.fill place cs.toArray (parts.map fun p => (p.1, a.eval p.2)) = some cs'.toArray ∧ Reps w A β zs cs'
  | [], parts', z, K, hl, _, h => by
    have : parts' = [] := List.length_eq_zero_iff.1 hl
    subst this
    exact ⟨z, h, fun w A β a cs hz _ => ⟨cs, rfl, hz⟩⟩
  | p :: parts, [], z, K, hl, _, h => by simp at hl
  | p :: parts, (off, s, x) :: parts', z, K, hl, hp, h => by
    obtain ⟨h1, h2⟩ := hp 0 p (off, s, x) (by simp) (by simp)
    simp only at h1 h2
    subst h2
    simp only [bldK] at h
    cases hc : cellsOf (ev e (cOpd p.2)) with
    | none => simp [hc] at h
    | some fs =>
      simp only [hc] at h
      obtain ⟨hs, hle, h⟩ := h
      obtain ⟨zs, hK, hrun⟩ := bld_sound place e parts parts' (splice z off fs) K (by simpa using hl) (fun k p' q h3 h4 => hp (k + 1) p' q (by simpa using h3) (by simpa using h4)) h
      refine ⟨zs, hK, fun w A β a cs hz hr => ?_⟩
      have hf := cellsOf_reps hc (hr p (by simp))
      obtain ⟨cs', h5, h6⟩ := hrun w A β a _ (splice_reps hz hf (by omega)) fun q hq => hr q (by simp [hq])
      refine ⟨cs', ?_, h6⟩
      simp only [List.map_cons, Instr.fill, h1]
      have hsz : (a.eval p.2).cells.size = s := by rw [← hs, ← hf.1]; simp
      have hcs : cs.toArray.size = z.length := by simp [hz.1]
      rw [if_neg (by simp only [hsz, hcs]; simp; omega)]
      have := foldl_set (a.eval p.2).cells.toList off 0 cs (by simp only [Array.length_toList, hsz, hz.1]; omega)
      simp only [Nat.add_zero] at this
      rw [← h5]
      congr 1
      rw [← Array.foldl_toList, Array.toList_zipIdx]
      exact this

theorem mapM_forall {α β : Type} {f : α → Option β} : ∀ {l : List α} {r : List β}, l.mapM f = some r → r.length = l.length ∧ ∀ (k : Nat) (x : α) (y : β), l[k]? = some x → r[k]? = some y → f x = some y
  | [], r, h => by
    simp at h; subst h
    exact ⟨rfl, fun k x y h => by simp at h⟩
  | a :: l, r, h => by
    simp only [List.mapM_cons, Option.bind_eq_bind, Option.pure_def] at h
    cases ha : f a with
    | none => simp [ha] at h
    | some b =>
      cases hr : l.mapM f with
      | none => simp [ha, hr] at h
      | some bs =>
        simp [ha, hr] at h
        subst h
        obtain ⟨h1, h2⟩ := mapM_forall hr
        refine ⟨by simp [h1], fun k x y h3 h4 => ?_⟩
        cases k with
        | zero => simp at h3 h4; subst h3 h4; exact ha
        | succ k => exact h2 k x y (by simpa using h3) (by simpa using h4)

theorem array_map_toList (parts : Array (Nat × Operand)) (a : Act) : (parts.map fun (i, x) => (i, a.eval x)).toList = parts.toList.map fun p => (p.1, a.eval p.2) := by simp

theorem bld_good {o : Oper} {t : TypeId} {parts : Array (Nat × Operand)} (ho : o.op = .build t parts) {op : IOp} {e : Env} {H : List Blk} {K : SV → Prop} (hc : cop P o = some op) (h : pop P op e H K) : ∃ sv, K sv ∧ Good P o e H sv := by
  simp only [cop, ho] at hc
  cases hz : zeroOf P t with
  | none => simp [hz] at hc
  | some z =>
    have hz' := hz
    unfold zeroOf at hz'
    obtain ⟨v, hv, rfl⟩ := Option.map_eq_some_iff.1 hz'
    clear hz'
    obtain ⟨it, hi, hzi⟩ := Option.bind_eq_some_iff.1 hv
    have zr : ∀ (w : World) (A : Nat → Prop) (β : List (Option Nat)), Reps w A β (v.cells.toList.map ofVal1) v.cells.toList := fun w A β => ⟨by simp, fun i f u h1 h2 => by
      simp only [List.getElem?_map, h2, Option.map_some, Option.some.injEq] at h1
      exact h1 ▸ ofVal1_rep u⟩
    have fin : ∀ (place : Nat → Option (Nat × Nat)) (parts' : List (Nat × Nat × Opd)), parts'.length = parts.toList.length → (∀ (k : Nat) (p : Nat × Operand) (q : Nat × Nat × Opd), parts.toList[k]? = some p → parts'[k]? = some q → place p.1 = some (q.1, q.2.1) ∧ q.2.2 = cOpd p.2) →
        (∀ vs, P.built t vs = Instr.fill place v.cells vs) → bldK e (v.cells.toList.map ofVal1) parts' K → ∃ sv, K sv ∧ Good P o e H sv := by
      intro place parts' h1 h2 h3 h4
      obtain ⟨zs, hK, hrun⟩ := bld_sound place e parts.toList parts' _ K h1 h2 h4
      refine ⟨_, hK, good_of fun w A β a hW hr => ?_⟩
      obtain ⟨cs', h5, h6⟩ := hrun w A β a _ (zr w A β) fun p hp => hr p.2 (by simp only [ho, Op.operands]; simp; exact ⟨p.1, by simpa using hp⟩)
      refine ⟨.agg cs'.toArray, ?_, .agg _ _ _ h6.1 h6.2⟩
      have := run_build (P := P) w t (parts.map fun (i, x) => (i, a.eval x)) cs'.toArray (by rw [h3, array_map_toList, ← h5])
      simp [execOp, ho, this]
    have harr : v.cells.toList.toArray = v.cells := by simp
    cases hu : P.underlying t with
    | none => simp [hz, hu] at hc
    | some d =>
      cases d <;> simp only [hz, hu, reduceCtorEq] at hc
      case struct fields =>
        cases hp : placesOf P fields with
        | none => simp [hp] at hc
        | some places =>
          simp only [hp] at hc
          obtain ⟨parts', hm, rfl⟩ := Option.map_eq_some_iff.1 hc
          obtain ⟨h1, h2⟩ := mapM_forall hm
          refine fin (places.toArray[·]?) parts' h1 (fun k p q h3 h4 => ?_) (fun vs => ?_) h
          · have := h2 k p q h3 h4
            unfold partOf at this
            obtain ⟨r, hr, rfl⟩ := Option.map_eq_some_iff.1 this
            exact ⟨by simpa using hr, rfl⟩
          · unfold placesOf at hp
            simp [Program.built, hi, hu, hzi, hp]
      case array n el =>
        obtain ⟨s, hs, rfl⟩ := Option.map_eq_some_iff.1 hc
        obtain ⟨ie, hie, hse⟩ := szOf_some hs
        refine fin (fun i => some (i * s, s)) _ (by simp) (fun k p q h3 h4 => ?_) (fun vs => ?_) h
        · simp only [List.getElem?_map, h3, Option.map_some, Option.some.injEq] at h4
          subst h4
          exact ⟨rfl, rfl⟩
        · simp [Program.built, hi, hu, hzi, hie, hse]

/-- Elements of some cells each, laid in a row. -/
def Row (w : World) (A : Nat → Prop) (wd : Nat) (xs : List (List SV)) (cs : List Value) : Prop :=
  xs.length * wd ≤ cs.length ∧ ∀ (i : Nat) (x : List SV), xs[i]? = some x → x.length = wd ∧ ∀ (j : Nat) (c : SV), x[j]? = some c → ∃ v, cs[i * wd + j]? = some v ∧ Rep w A [] c v

theorem row_set {w : World} {A : Nat → Prop} {wd : Nat} {xs : List (List SV)} {cs : List Value} {fs : List SV} {vs : List Value} {i : Nat} (hr : Row w A wd xs cs) (hf : Reps w A [] fs vs) (hl : fs.length = wd) (hi : i < xs.length) :
    Row w A wd (xs.set i fs) (cs.take (i * wd) ++ (vs ++ cs.drop (i * wd + vs.length))) := by
  have hb : i * wd + wd ≤ cs.length := by
    have : (i + 1) * wd ≤ xs.length * wd := Nat.mul_le_mul_right _ hi
    have := hr.1
    rw [Nat.add_mul, Nat.one_mul] at *
    omega
  have hvl : vs.length = wd := by rw [hf.1, hl]
  refine ⟨by have := hr.1; simp [hvl]; omega, fun k x hx => ?_⟩
  by_cases hk : k = i
  · subst hk
    rw [List.getElem?_set_self hi] at hx
    cases hx
    refine ⟨hl, fun j c hc => ?_⟩
    have hj : j < fs.length := (List.getElem?_eq_some_iff.1 hc).1
    obtain ⟨v, hv⟩ : ∃ v, vs[j]? = some v := ⟨vs[j]'(by rw [hf.1]; exact hj), by simp [hf.1, hj]⟩
    refine ⟨v, ?_, hf.2 j c v hc hv⟩
    rw [List.getElem?_append_right (by simp; omega), List.length_take, Nat.min_eq_left (by omega), Nat.add_sub_cancel_left, List.getElem?_append_left (by omega), hv]
  · rw [List.getElem?_set_ne (Ne.symm hk)] at hx
    obtain ⟨h1, h2⟩ := hr.2 k x hx
    refine ⟨h1, fun j c hc => ?_⟩
    obtain ⟨v, hv, hv2⟩ := h2 j c hc
    refine ⟨v, ?_, hv2⟩
    have hj : j < wd := by rw [← h1]; exact (List.getElem?_eq_some_iff.1 hc).1
    rcases Nat.lt_or_gt_of_ne hk with hlt | hgt
    · have : (k + 1) * wd ≤ i * wd := Nat.mul_le_mul_right _ hlt
      rw [Nat.add_mul, Nat.one_mul] at this
      rw [List.getElem?_append_left (by simp; omega), List.getElem?_take_of_lt (by omega), hv]
    · have : (i + 1) * wd ≤ k * wd := Nat.mul_le_mul_right _ hgt
      rw [Nat.add_mul, Nat.one_mul] at this
      rw [List.getElem?_append_right (by simp; omega), List.length_take, Nat.min_eq_left (by omega), List.getElem?_append_right (by omega), List.getElem?_drop, hvl]
      rw [← hv]; congr 1; omega

theorem bsl_sound (e : Env) (wd : Nat) : ∀ (parts : List (Nat × Operand)) (xs : List (List SV)) (K : SV → Prop), bslK e wd xs (parts.map fun p => (p.1, cOpd p.2)) K →
    ∃ ys : List (List SV), ys.length = xs.length ∧ K (.slc wd ys) ∧ ∀ (w : World) (A : Nat → Prop) (β : List (Option Nat)) (a : Act) (cs : List Value), Row w A wd xs cs → cs.length = xs.length * wd → (∀ p ∈ parts, Rep w A β (ev e (cOpd p.2)) (a.eval p.2)) →
      ∃ cs', Instr.fill (fun i => some (i * wd, wd)) cs.toArray (parts.map fun p => (p.1, a.eval p.2)) = some cs'.toArray ∧ Row w A wd ys cs' ∧ cs'.length = ys.length * wd
  | [], xs, K, h => ⟨xs, rfl, h, fun w A β a cs hr hl _ => ⟨cs, rfl, hr, hl⟩⟩
  | p :: parts, xs, K, h => by
    simp only [List.map_cons, bslK] at h
    cases hc : cellsOf (ev e (cOpd p.2)) with
    | none => simp [hc] at h
    | some fs =>
      simp only [hc] at h
      obtain ⟨hs, hi, hp, h⟩ := h
      obtain ⟨ys, hyl, hK, hrun⟩ := bsl_sound e wd parts _ K h
      refine ⟨ys, by simpa using hyl, hK, fun w A β a cs hrow hl hr => ?_⟩
      have hf := cellsOf_reps hc (hr p (by simp))
      have hf' : Reps w A [] fs (a.eval p.2).cells.toList := ⟨hf.1, fun i f v h1 h2 => (hf.2 i f v h1 h2).purely (pureL_mem hp i f h1) _⟩
      have hvl : (a.eval p.2).cells.size = wd := by rw [← hs, ← hf.1]; simp
      have hb : p.1 * wd + wd ≤ cs.length := by
        have : (p.1 + 1) * wd ≤ xs.length * wd := Nat.mul_le_mul_right _ hi
        rw [Nat.add_mul, Nat.one_mul] at this
        omega
      obtain ⟨cs', h5, h6, h7⟩ := hrun w A β a _ (row_set hrow hf' hs hi) (by simp [hvl]; omega) fun q hq => hr q (by simp [hq])
      refine ⟨cs', ?_, h6, h7⟩
      simp only [List.map_cons, Instr.fill]
      rw [if_neg (by simp [hvl]; omega)]
      have := foldl_set (a.eval p.2).cells.toList (p.1 * wd) 0 cs (by simp only [Array.length_toList, hvl]; omega)
      simp only [Nat.add_zero] at this
      rw [← h5]
      congr 1
      rw [← Array.foldl_toList, Array.toList_zipIdx]
      exact this

theorem row_zero {w : World} {A : Nat → Prop} (n wd : Nat) (z : Array Value) (hz : z.size = wd) (hw : 0 < wd) (hp : SV.pure.pureL (z.toList.map ofVal1) = true) (m : Nat) (hm : n * wd ≤ m) :
    Row w A wd (List.replicate n (z.toList.map ofVal1)) ((Array.range m).map (z[· % z.size]!)).toList := by
  refine ⟨by simp; omega, fun i x hx => ?_⟩
  have hi : i < n := by
    have := (List.getElem?_eq_some_iff.1 hx).1
    simpa using this
  have hx' : x = z.toList.map ofVal1 := by
    rw [List.getElem?_replicate_of_lt hi] at hx
    exact (Option.some.inj hx).symm
  subst hx'
  refine ⟨by simp [hz], fun j c hc => ?_⟩
  have hj : j < z.size := by
    have := (List.getElem?_eq_some_iff.1 hc).1
    simpa using this
  have hlt : i * wd + j < m := by
    have : (i + 1) * wd ≤ n * wd := Nat.mul_le_mul_right _ hi
    rw [Nat.add_mul, Nat.one_mul] at this
    omega
  have hmod : (i * wd + j) % z.size = j := by
    rw [hz, Nat.mul_comm, Nat.mul_add_mod, Nat.mod_eq_of_lt (by omega)]
  refine ⟨z[j], ?_, ?_⟩
  · simp [hlt, hmod, hj]
  · have : c = ofVal1 z[j] := by
      simp [hj] at hc
      exact hc.symm
    rw [this]
    exact ofVal1_rep _

theorem mem_of_row {w : World} {A : Nat → Prop} {wd : Nat} {xs : List (List SV)} {cs : List Value} (hr : Row w A wd xs cs) {b : Nat} {T : TypeId} {fr : Nat × Nat} (hb : w.heap[b]? = some (.cells cs.toArray T fr)) (hA : ¬ A b) :
    ∃ vs, Mem w A b 0 wd xs vs ∧ ∀ (i : Nat) (x : List SV) (j : Nat) (c : SV), xs[i]? = some x → x[j]? = some c → Rep w A [] c (vs (0 + i * wd + j)) := by
  refine ⟨fun k => (cs[k]?).getD undef, ⟨⟨cs.toArray, T, fr, hb, fun i x j hx hj => ?_⟩, hA, fun i x hx => (hr.2 i x hx).1⟩, fun i x j c hx hc => ?_⟩
  · obtain ⟨h1, h2⟩ := hr.2 i x hx
    obtain ⟨v, hv, _⟩ := h2 j (x[j]'(by omega)) (by simp)
    simp [Nat.zero_add, hv]
  · obtain ⟨h1, h2⟩ := hr.2 i x hx
    obtain ⟨v, hv, hv2⟩ := h2 j c hc
    simpa [Nat.zero_add, hv] using hv2

theorem Row.mono {w w' : World} {A A' : Nat → Prop} {wd : Nat} {xs : List (List SV)} {cs : List Value} (h : Row w A wd xs cs) (s : Stp A w w') (hA : ∀ b, b < w.heap.size → A' b → A b) : Row w' A' wd xs cs :=
  ⟨h.1, fun i x hx => ⟨(h.2 i x hx).1, fun j c hc => by
    obtain ⟨v, h1, h2⟩ := (h.2 i x hx).2 j c hc
    exact ⟨v, h1, h2.mono s hA⟩⟩⟩

end
end Go.Proofs.Ytefciekodhpefaa
