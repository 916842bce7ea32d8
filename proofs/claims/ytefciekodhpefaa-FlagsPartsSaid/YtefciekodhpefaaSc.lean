/- What is shown of an operation that turns nothing is what it does. -/
import Derived.Test.YtefciekodhpefaaSb
namespace Go.Proofs.Ytefciekodhpefaa
open Go.RowKit

/-! ### What an operation yields -/

def Oper.relUpon (P : Program) (K : Value → World → Prop) : Result Next → Prop
  | .ok (.value u) w' => K u w'
  | .ok .skip w' => K undef w'
  | .ok (.enter f args) w' => Calls P f args w' fun e w'' => ∃ v, e = .returned v ∧ K v w''
  | _ => False

def rel (P : Program) (o : Oper) (a : Act) (w : World) (K : Value → World → Prop) : Prop := Oper.relUpon P K ((execOp a.eval o).run P w)

theorem rel_mono {P : Program} {o : Oper} {a : Act} {w : World} {K K' : Value → World → Prop} (h : rel P o a w K) (hk : ∀ v w', K v w' → K' v w') : rel P o a w K' := by
  unfold rel at *
  generalize (execOp a.eval o).run P w = r at *
  cases r with
  | ok n w' =>
    cases n <;> simp only [Oper.relUpon] at h ⊢
    case value u => exact hk _ _ h
    case skip => exact hk _ _ h
    case enter f args => exact h.mono fun e w'' ⟨v, he, hv⟩ => ⟨v, he, hk _ _ hv⟩
  | halt x w' => simp only [Oper.relUpon] at h

theorem rel_value {P : Program} {o : Oper} {a : Act} {w w' : World} {v : Value} {K : Value → World → Prop} (h : (execOp a.eval o).run P w = .ok (.value v) w') (hk : K v w') : rel P o a w K := by
  unfold rel; rw [h]; exact hk

/-! ### Types -/

section
variable {P : Program} {w : World}

theorem run_program : (program).run P w = .ok P w := rfl
theorem run_typeInfo {t : TypeId} {i : TypeInfo} (h : P.info? t = some i) : (typeInfo t).run P w = .ok i w := by simp [typeInfo, program, Sem.run, h]
theorem run_under {t : TypeId} {d : TypeDesc} (h : P.underlying t = some d) : (underlying t).run P w = .ok d w := by simp [underlying, program, Sem.run, h]
theorem szOf_some {t : TypeId} {s : Nat} (h : szOf P t = some s) : ∃ i, P.info? t = some i ∧ i.size = s := by
  unfold szOf at h
  exact Option.map_eq_some_iff.1 h
theorem run_size {t : TypeId} {s : Nat} (h : szOf P t = some s) : (sizeOf t).run P w = .ok s w := by
  obtain ⟨i, hi, rfl⟩ := szOf_some h
  simp [sizeOf, run_typeInfo hi]
theorem run_isAgg {t : TypeId} {ag : Bool} (h : aggOf P t = some ag) : (isAgg t).run P w = .ok ag w := by
  unfold aggOf at h
  obtain ⟨d, hd, rfl⟩ := Option.map_eq_some_iff.1 h
  simp only [isAgg, Sem.run_bind, run_under hd, Result.andThen_ok]
  cases d <;> rfl
theorem run_zero {t : TypeId} {z : List SV} (h : zeroOf P t = some z) : ∃ v, (∀ w, (zeroValue t).run P w = .ok v w) ∧ v.cells.toList.map ofVal1 = z := by
  unfold zeroOf at h
  obtain ⟨v, hv, rfl⟩ := Option.map_eq_some_iff.1 h
  obtain ⟨i, hi, hz⟩ := Option.bind_eq_some_iff.1 hv
  exact ⟨v, fun w => by simp [zeroValue, run_typeInfo hi, hz], rfl⟩

/-! ### Operands -/

theorem ofVal1_rep {A : Nat → Prop} {β : List (Option Nat)} (v : Value) : Rep w A β (ofVal1 v) v := by
  unfold ofVal1
  split
  · exact .int _ _ _
  · exact .bool _ _
  · exact .str _ _
  · exact .nils _ _
  · exact .raw _ _
theorem ofVal1_pure (v : Value) : (ofVal1 v).pure = true := by
  unfold ofVal1; split <;> rfl
theorem map_ofVal1_pure : ∀ l : List Value, SV.pure.pureL (l.map ofVal1) = true
  | [] => rfl
  | v :: l => by simp [SV.pure.pureL, ofVal1_pure, map_ofVal1_pure l]
theorem ofVal_rep {A : Nat → Prop} {β : List (Option Nat)} (v : Value) : Rep w A β (ofVal v) v := by
  unfold ofVal
  split
  · rename_i cs
    refine .agg _ _ cs.toList (by simp) fun i f v h1 h2 => ?_
    simp only [List.getElem?_map, h2, Option.map_some, Option.some.injEq] at h1
    exact h1 ▸ ofVal1_rep v
  · rename_i cs
    refine .tup _ _ cs.toList (by simp) fun i f v h1 h2 => ?_
    simp only [List.getElem?_map, h2, Option.map_some, Option.some.injEq] at h1
    exact h1 ▸ ofVal1_rep v
  · exact ofVal1_rep v

theorem ev_rep {A : Nat → Prop} {β : List (Option Nat)} {e : Env} {a : Act} (x : Operand) (h : ∀ t, x = .tmp t → Rep w A β (look e t) (a.tmps.getD t undef)) : Rep w A β (ev e (cOpd x)) (a.eval x) := by
  cases x with
  | tmp t => exact h t rfl
  | const v => exact ofVal_rep v
  | global g => exact .raw _ _
  | func f => exact .fn _ _ _ [] rfl fun i f v h => by simp at h

/-! ### Cells -/

theorem addr_add (b off n : Nat) : (⟨b, off, none⟩ : Addr).add n = ⟨b, off + n, none⟩ := by
  unfold Addr.add; split
  · rename_i h; subst h; rfl
  · rfl
theorem cell_of {b o : Nat} {cs : Array Value} {T : TypeId} {fr : Nat × Nat} (h : w.heap[b]? = some (.cells cs T fr)) : w.cell? ⟨b, o, none⟩ = cs[o]? := by
  simp [World.cell?, h]

theorem run_loadCells {b : Nat} {cs : Array Value} {T : TypeId} {fr : Nat × Nat} (h : w.heap[b]? = some (.cells cs T fr)) (off : Nat) : ∀ (l : List Value) (i : Nat) (acc : Array Value), (∀ (j : Nat) (v : Value), l[j]? = some v → cs[off + (i + j)]? = some v) →
    (loadCellsFrom ⟨b, off, none⟩ i l.length acc).run P w = .ok (acc ++ l.toArray) w
  | [], i, acc, _ => by simp [loadCellsFrom]
  | v :: l, i, acc, hl => by
    have h0 := hl 0 v (by simp)
    have ih := run_loadCells h off l (i + 1) (acc.push v) fun j u hj => by
      have := hl (j + 1) u (by simpa using hj)
      rw [← this]; congr 1; omega
    simp only [List.length_cons, loadCellsFrom, Sem.run_bind, run_load, addr_add, cell_of h]
    simp only [Nat.add_zero] at h0
    simp only [h0, Result.andThen_ok, ih]
    simp

/-- What a part of some cells is. -/
def PartOf (s : Nat) (ag : Bool) (cells : List SV) (o : Nat) (sv : SV) : Prop :=
  match ag with
  | true => o + s ≤ cells.length ∧ sv = .agg ((cells.drop o).take s)
  | false => cells[o]? = some sv

theorem partK_ex {s : Nat} {ag : Bool} {cells : List SV} {o : Nat} {K : SV → Prop} (h : partK s ag cells o K) : ∃ sv, K sv ∧ PartOf s ag cells o sv := by
  unfold partK at h
  cases ag with
  | true => exact ⟨_, h.2, h.1, rfl⟩
  | false =>
    simp only at h
    split at h
    · rename_i c hc; exact ⟨c, h, hc⟩
    · exact h.elim

/-- Values stand in a list for what is known of them. -/
def Reps (w : World) (A : Nat → Prop) (β : List (Option Nat)) (fs : List SV) (vs : List Value) : Prop := vs.length = fs.length ∧ ∀ (i : Nat) (f : SV) (v : Value), fs[i]? = some f → vs[i]? = some v → Rep w A β f v

theorem part_load {t : TypeId} {s : Nat} {ag : Bool} (hs : szOf P t = some s) (hag : aggOf P t = some ag) {A : Nat → Prop} {β : List (Option Nat)} {cells : List SV} {o : Nat} {sv : SV} (hp : PartOf s ag cells o sv)
    {b : Nat} {cs : Array Value} {T : TypeId} {fr : Nat × Nat} (h : w.heap[b]? = some (.cells cs T fr)) {base : Nat} (hc : ∀ (j : Nat) (c : SV), cells[j]? = some c → ∃ v, cs[base + j]? = some v ∧ Rep w A β c v) :
    ∃ v, (loadVar t ⟨b, base + o, none⟩).run P w = .ok v w ∧ Rep w A β sv v := by
  cases ag with
  | false =>
    obtain ⟨v, h1, h2⟩ := hc o sv hp
    exact ⟨v, by simp [loadVar, run_isAgg hag, run_load, cell_of h, h1], h2⟩
  | true =>
    obtain ⟨hlen, rfl⟩ := hp
    let l := (List.range s).map fun j => (cs[base + o + j]?).getD undef
    have hl : l.length = s := by simp [l]
    have hget : ∀ (j : Nat) (v : Value), l[j]? = some v → ∃ c, ((cells.drop o).take s)[j]? = some c ∧ cs[base + o + j]? = some v ∧ Rep w A β c v := by
      intro j v hv
      have hj : j < s := by
        rcases Nat.lt_or_ge j s with h' | h'
        · exact h'
        · rw [List.getElem?_eq_none (by omega)] at hv; cases hv
      have hcj : ∃ c, cells[o + j]? = some c := ⟨cells[o + j]'(by omega), by simp [show o + j < cells.length by omega]⟩
      obtain ⟨c, hcj⟩ := hcj
      obtain ⟨v', h1, h2⟩ := hc (o + j) c hcj
      rw [← Nat.add_assoc] at h1
      have : v = v' := by
        simp only [l, List.getElem?_map, List.getElem?_range hj, Option.map_some, Option.some.injEq] at hv
        rw [← hv, h1]; rfl
      subst this
      exact ⟨c, by rw [List.getElem?_take_of_lt hj, List.getElem?_drop, hcj], h1, h2⟩
    have hrun := run_loadCells (P := P) h (base + o) l 0 #[] fun j v hv => by
      obtain ⟨c, _, h1, _⟩ := hget j v hv
      rw [Nat.zero_add]; exact h1
    refine ⟨.agg l.toArray, ?_, .agg _ _ l (by rw [hl]; simp; omega) fun j c v h1 h2 => ?_⟩
    · simp only [loadVar, Sem.run_bind, run_isAgg hag, Result.andThen_ok, if_true, run_size hs, loadCells]
      rw [hl] at hrun
      simp only [hrun, Result.andThen_ok, Sem.run_pure]
      simp
    · obtain ⟨c', h3, _, h4⟩ := hget j v h2
      rw [h3] at h1; cases h1; exact h4

/-- A part of a struct's value. -/
theorem part_field {t : TypeId} {s : Nat} {ag : Bool} (hs : szOf P t = some s) (hag : aggOf P t = some ag) {A : Nat → Prop} {β : List (Option Nat)} {cells : List SV} {o : Nat} {sv : SV} (hp : PartOf s ag cells o sv)
    {vs : List Value} (hv : Reps w A β cells vs) : ∃ v, (part t vs.toArray o).run P w = .ok v w ∧ Rep w A β sv v := by
  cases ag with
  | false =>
    have hlt : o < cells.length := (List.getElem?_eq_some_iff.1 hp).1
    have hlt' : o < vs.length := by rw [hv.1]; exact hlt
    refine ⟨vs[o], by simp [part, run_isAgg hag, hlt'], hv.2 o sv _ hp (by simp [hlt'])⟩
  | true =>
    obtain ⟨hlen, rfl⟩ := hp
    refine ⟨.agg ((vs.drop o).take s).toArray, by simp [part, run_isAgg hag, run_size hs, List.extract_eq_take_drop], .agg _ _ _ (by simp [hv.1]) fun i f v h1 h2 => ?_⟩
    by_cases hi : i < s
    · rw [List.getElem?_take_of_lt hi, List.getElem?_drop] at h1 h2
      exact hv.2 _ _ _ h1 h2
    · rw [List.getElem?_eq_none (by simp; omega)] at h1; cases h1

/-! ### Numbers -/

theorem wrap_in {k : IntKind} {z : Int} (h : inK k z) : k.wrap z = z := by
  cases k <;> simp only [inK] at h
  · exact IntWalk.i8_in _ h
  · exact IntWalk.i16_in _ h
  · exact IntWalk.i32_in _ h
  · exact IntWalk.i64_in _ h
  · exact IntWalk.u8_in _ h
  · exact IntWalk.u16_in _ h
  · exact IntWalk.u32_in _ h
  · exact IntWalk.u64_in _ h
theorem Ar.eq {k : IntKind} {z z' : Int} (h : Ar k z z') : z' = k.wrap z := by
  rcases h with ⟨h, rfl⟩ | h
  · exact (wrap_in h).symm
  · exact h

theorem intK_sound {o : BinOp} {k k' : IntKind} {a b : Int} {K : SV → Prop} (t : TypeId) (h : intK o k k' a b K) : ∃ sv, K sv ∧ ∃ v, (∀ w, (binOp o t (.int k a) (.int k' b)).run P w = .ok v w) ∧ ∀ w A β, Rep w A β sv v := by
  unfold intK at h
  cases o <;> simp only at h
  case add => obtain ⟨rfl, z, hz, hK⟩ := h; exact ⟨_, hK, _, fun w => by simp [binOp, Op.intArith]; rfl, fun w A β => by rw [← hz.eq]; exact .int _ _ _⟩
  case sub => obtain ⟨rfl, z, hz, hK⟩ := h; exact ⟨_, hK, _, fun w => by simp [binOp, Op.intArith]; rfl, fun w A β => by rw [← hz.eq]; exact .int _ _ _⟩
  case mul => obtain ⟨rfl, z, hz, hK⟩ := h; exact ⟨_, hK, _, fun w => by simp [binOp, Op.intArith]; rfl, fun w A β => by rw [← hz.eq]; exact .int _ _ _⟩
  case quo => obtain ⟨rfl, hb, z, hz, hK⟩ := h; exact ⟨_, hK, _, fun w => by simp [binOp, Op.intDiv, hb]; rfl, fun w A β => by rw [← hz.eq]; exact .int _ _ _⟩
  case rem => obtain ⟨rfl, hb, hK⟩ := h; exact ⟨_, hK, .int k (a.tmod b), fun w => by simp [binOp, Op.intDiv, hb], fun w A β => .int _ _ _⟩
  case and => obtain ⟨rfl, hK⟩ := h; exact ⟨_, hK, .int k (bAnd k a b), fun w => by simp only [binOp, Op.intBits, ne_eq, not_true, if_false]; rfl, fun w A β => .int _ _ _⟩
  case or => obtain ⟨rfl, hK⟩ := h; exact ⟨_, hK, .int k (bOr k a b), fun w => by simp only [binOp, Op.intBits, ne_eq, not_true, if_false]; rfl, fun w A β => .int _ _ _⟩
  case xor => obtain ⟨rfl, hK⟩ := h; exact ⟨_, hK, .int k (bXor k a b), fun w => by simp only [binOp, Op.intBits, ne_eq, not_true, if_false]; rfl, fun w A β => .int _ _ _⟩
  case andNot => obtain ⟨rfl, hK⟩ := h; exact ⟨_, hK, .int k (bAndNot k a b), fun w => by simp only [binOp, Op.intBits, ne_eq, not_true, if_false]; rfl, fun w A β => .int _ _ _⟩
  case shl => obtain ⟨hb, z, hz, hK⟩ := h; exact ⟨_, hK, _, fun w => by simp [binOp, Op.shift, show ¬ b < 0 by omega]; rfl, fun w A β => by rw [← hz.eq]; exact .int _ _ _⟩
  case shr =>
    obtain ⟨hb, hK⟩ := h
    refine ⟨_, hK, .int k (a / 2 ^ (min b.toNat k.bits)), fun w => ?_, fun w A β => .int _ _ _⟩
    simp only [binOp, Op.shift, show ¬ b < 0 by omega, if_false, Sem.run_pure]
    rw [Int.fdiv_eq_ediv_of_nonneg _ (Int.le_of_lt (Int.pow_pos (by decide)))]
  case eql => obtain ⟨rfl, hK⟩ := h; exact ⟨_, hK, _, fun w => by simp only [binOp, Op.intCmp, ne_eq, not_true, if_false]; rfl, fun w A β => .bool _ _⟩
  case neq => obtain ⟨rfl, hK⟩ := h; exact ⟨_, hK, .bool (decide (a ≠ b)), fun w => by simp [binOp, Op.intCmp, bne]; rfl, fun w A β => .bool _ _⟩
  case lss => obtain ⟨rfl, hK⟩ := h; exact ⟨_, hK, _, fun w => by simp only [binOp, Op.intCmp, ne_eq, not_true, if_false]; rfl, fun w A β => .bool _ _⟩
  case leq => obtain ⟨rfl, hK⟩ := h; exact ⟨_, hK, _, fun w => by simp only [binOp, Op.intCmp, ne_eq, not_true, if_false]; rfl, fun w A β => .bool _ _⟩
  case gtr => obtain ⟨rfl, hK⟩ := h; exact ⟨_, hK, _, fun w => by simp only [binOp, Op.intCmp, ne_eq, not_true, if_false]; rfl, fun w A β => .bool _ _⟩
  case geq => obtain ⟨rfl, hK⟩ := h; exact ⟨_, hK, _, fun w => by simp only [binOp, Op.intCmp, ne_eq, not_true, if_false]; rfl, fun w A β => .bool _ _⟩

theorem unK_sound {o : UnOp} {x : SV} {K : SV → Prop} (h : unK o x K) : ∃ sv, K sv ∧ ∀ w A β v, Rep w A β x v → ∃ u, (Op.unary o v).run P w = .ok u w ∧ Rep w A β sv u := by
  unfold unK at h
  split at h
  · obtain ⟨z, hz, hK⟩ := h
    refine ⟨_, hK, fun w A β v hv => ?_⟩
    cases hv
    exact ⟨_, by simp [Op.unary, Op.intArith]; rfl, by have := hz.eq; rw [Int.zero_sub] at this; rw [← this]; exact .int _ _ _⟩
  · refine ⟨_, h, fun w A β v hv => ?_⟩
    cases hv
    exact ⟨_, by simp [Op.unary, Op.intBits]; rfl, .int _ _ _⟩
  · refine ⟨_, h, fun w A β v hv => ?_⟩
    cases hv
    exact ⟨_, rfl, .bool _ _⟩
  · exact h.elim

end
end Go.Proofs.Ytefciekodhpefaa
