/- What is shown of code is what it does: regions that draw their order. -/
import Derived.Test.YtefciekodhpefaaSn
namespace Go.Proofs.Ytefciekodhpefaa
open Go.RowKit

section
variable {P : Program} {w : World} {A : Nat → Prop} {β : List (Option Nat)} {H : List Blk} {Hall : List Blk}

abbrev GS := World × List (Option Nat)

/-- What may be written, with the blocks made so far. -/
def AS (A : Nat → Prop) (s : GS) : Nat → Prop := fun b => A b ∨ some b ∈ s.2
def RF (A : Nat → Prop) (β : List (Option Nat)) (sv : SV) : Fact (List (Option Nat)) := fun v s => Rep s.1 (AS A s) (β ++ s.2) sv v

structure Okk (w : World) (A : Nat → Prop) (β : List (Option Nat)) (Hall : List Blk) (s : GS) : Prop where
  fin : ∀ b, AS A s b → b < s.1.heap.size
  inj : ∀ (k k' b : Nat), s.2[k]? = some (some b) → s.2[k']? = some (some b) → k = k'
  new : ∀ b, some b ∈ s.2 → w.heap.size ≤ b
  len : s.2.length = Hall.length
  blk : ∀ (k b : Nat) (blk : Blk), s.2[k]? = some (some b) → Hall[k]? = some blk → BlkRel s.1 (AS A s) (β ++ s.2) (some b) blk

structure RS (w : World) (A : Nat → Prop) (β : List (Option Nat)) (Hall : List Blk) (s s' : GS) : Prop where
  below : Below s.1.heap.size s.1 s'.1
  mono : ∀ (k b : Nat), s.2[k]? = some (some b) → s'.2[k]? = some (some b)
  fresh : ∀ b, some b ∈ s'.2 → some b ∈ s.2 ∨ s.1.heap.size ≤ b
  okk : Okk w A β Hall s → Okk w A β Hall s'

theorem RS.refl (s : GS) : RS w A β Hall s s := ⟨Below.refl _ _, fun _ _ h => h, fun _ h => .inl h, fun h => h⟩
theorem RS.trans (a b c : GS) (h : RS w A β Hall a b) (k : RS w A β Hall b c) : RS w A β Hall a c :=
  ⟨h.below.trans (k.below.mono h.below.size), fun i x hx => k.mono i x (h.mono i x hx), fun x hx => by
    rcases k.fresh x hx with h1 | h1
    · exact h.fresh x h1
    · exact .inr (Nat.le_trans h.below.size h1), fun ho => k.okk (h.okk ho)⟩

theorem RS.away {s s' : GS} (h : RS w A β Hall s s') : ∀ b, b < s.1.heap.size → AS A s' b → AS A s b := fun b hb ha => by
  rcases ha with ha | ha
  · exact .inl ha
  · rcases h.fresh b ha with h1 | h1
    · exact .inr h1
    · omega

theorem join_get {s s' : GS} (hm : ∀ (k b : Nat), s.2[k]? = some (some b) → s'.2[k]? = some (some b)) : ∀ (k b : Nat), (β ++ s.2)[k]? = some (some b) → (β ++ s'.2)[k]? = some (some b) := fun k b hk => by
  by_cases hl : k < β.length
  · rw [List.getElem?_append_left hl] at hk ⊢; exact hk
  · rw [List.getElem?_append_right (by omega)] at hk ⊢; exact hm _ _ hk

theorem rep_step {s s' : GS} {sv : SV} {v : Value} (h : RS w A β Hall s s') (hr : RF A β sv v s) : RF A β sv v s' := (Rep.mono (Stp.below h.below) h.away hr).more _ (join_get h.mono)

theorem wb_at {s : GS} (hWR : WRel w A β H) (hb : Below w.heap.size w s.1) (ho : Okk w A β Hall s) (Hp : List Blk) (hpre : Hp <+: Hall) : WB s.1 (AS A s) (β ++ s.2) (H ++ Hp) := by
  refine ⟨fun k o blk hk hbk => ?_⟩
  by_cases hl : k < β.length
  · rw [List.getElem?_append_left hl] at hk
    rw [List.getElem?_append_left (by rw [← hWR.len]; exact hl)] at hbk
    refine (hWR.blk k o blk hk hbk).keep (Stp.below hb) (fun b hb' ha => ?_) (fun k' b' hk' => ?_) (fun b e => ?_)
    · rcases ha with ha | ha
      · exact ha
      · have := ho.new b ha; omega
    · rw [List.getElem?_append_left (List.getElem?_eq_some_iff.1 hk').1]; exact hk'
    · subst e; exact hb.block b (hWR.own k b hk).2
  · rw [List.getElem?_append_right (by omega)] at hk
    rw [List.getElem?_append_right (by rw [← hWR.len]; omega), ← hWR.len] at hbk
    cases o with
    | none => trivial
    | some b =>
      refine ho.blk _ b blk hk ?_
      obtain ⟨t, rfl⟩ := hpre
      rw [List.getElem?_append_left (List.getElem?_eq_some_iff.1 hbk).1]; exact hbk

/-- A step that makes blocks: they get the names from p on. -/
theorem RS.make {s : GS} {w' : World} {γ : List (Option Nat)} {Hn : List Blk} {p : Nat} (hw : w.heap.size ≤ s.1.heap.size) (hb : Below s.1.heap.size s.1 w') (hlen : p + γ.length ≤ s.2.length) (hun : ∀ k, k < γ.length → s.2[p + k]? = some none) (hsome : ∀ o ∈ γ, o.isSome = true)
    (hnew : ∀ b, some b ∈ γ → s.1.heap.size ≤ b ∧ b < w'.heap.size) (hinj : ∀ (k k' b : Nat), γ[k]? = some (some b) → γ[k']? = some (some b) → k = k')
    (hH : ∀ k, k < γ.length → Hall[p + k]? = Hn[k]?) (hblk : Okk w A β Hall s → ∀ (k b : Nat) (blk : Blk), γ[k]? = some (some b) → Hn[k]? = some blk → BlkRel w' (AS A (w', s.2.take p ++ (γ ++ s.2.drop (p + γ.length)))) (β ++ (s.2.take p ++ (γ ++ s.2.drop (p + γ.length)))) (some b) blk) :
    RS w A β Hall s (w', s.2.take p ++ (γ ++ s.2.drop (p + γ.length))) := by
  have htl : (s.2.take p).length = p := by simp; omega
  -- which names are which
  have g1 : ∀ k, k < p → (s.2.take p ++ (γ ++ s.2.drop (p + γ.length)))[k]? = s.2[k]? := fun k hk => by
    rw [List.getElem?_append_left (by omega), List.getElem?_take_of_lt hk]
  have g2 : ∀ k, k < γ.length → (s.2.take p ++ (γ ++ s.2.drop (p + γ.length)))[p + k]? = γ[k]? := fun k hk => by
    rw [List.getElem?_append_right (by omega), htl, Nat.add_sub_cancel_left, List.getElem?_append_left hk]
  have g3 : ∀ k, p + γ.length ≤ k → (s.2.take p ++ (γ ++ s.2.drop (p + γ.length)))[k]? = s.2[k]? := fun k hk => by
    rw [List.getElem?_append_right (by omega), htl, List.getElem?_append_right (by omega), List.getElem?_drop]
    congr 1; omega
  have cases3 : ∀ k, k < p ∨ (∃ q, q < γ.length ∧ k = p + q) ∨ p + γ.length ≤ k := fun k => by
    by_cases h1 : k < p
    · exact .inl h1
    · by_cases h2 : p + γ.length ≤ k
      · exact .inr (.inr h2)
      · exact .inr (.inl ⟨k - p, by omega, by omega⟩)
  have hmono : ∀ (k b : Nat), s.2[k]? = some (some b) → (s.2.take p ++ (γ ++ s.2.drop (p + γ.length)))[k]? = some (some b) := fun k b hk => by
    rcases cases3 k with h | ⟨q, h, rfl⟩ | h
    · rw [g1 k h]; exact hk
    · rw [hun q h] at hk; cases hk
    · rw [g3 k h]; exact hk
  have hfresh : ∀ b, some b ∈ s.2.take p ++ (γ ++ s.2.drop (p + γ.length)) → some b ∈ s.2 ∨ some b ∈ γ := fun b hm => by
    simp only [List.mem_append] at hm
    rcases hm with h | h | h
    · exact .inl (List.mem_of_mem_take h)
    · exact .inr h
    · exact .inl (List.mem_of_mem_drop h)
  refine ⟨hb, hmono, fun b hm => (hfresh b hm).imp id fun h => (hnew b h).1, fun ho => ?_⟩
  have hlt : ∀ b, some b ∈ s.2 → b < s.1.heap.size := fun b hm => ho.fin b (.inr hm)
  refine ⟨fun b ha => ?_, fun k k' b hk hk' => ?_, fun b hm => ?_, by simp [htl, ← ho.len]; omega, fun k b blk hk hbk => ?_⟩
  · rcases ha with ha | ha
    · exact Nat.lt_of_lt_of_le (ho.fin b (.inl ha)) hb.size
    · rcases hfresh b ha with h | h
      · exact Nat.lt_of_lt_of_le (hlt b h) hb.size
      · exact (hnew b h).2
  · -- a name's block tells the name
    have side : ∀ k, (s.2.take p ++ (γ ++ s.2.drop (p + γ.length)))[k]? = some (some b) → (s.2[k]? = some (some b) ∧ b < s.1.heap.size) ∨ (∃ q, k = p + q ∧ γ[q]? = some (some b) ∧ s.1.heap.size ≤ b) := fun k hk => by
      rcases cases3 k with h | ⟨q, h, rfl⟩ | h
      · rw [g1 k h] at hk; exact .inl ⟨hk, hlt b (List.mem_of_getElem? hk)⟩
      · rw [g2 q h] at hk; exact .inr ⟨q, rfl, hk, (hnew b (List.mem_of_getElem? hk)).1⟩
      · rw [g3 k h] at hk; exact .inl ⟨hk, hlt b (List.mem_of_getElem? hk)⟩
    rcases side k hk with ⟨h1, h2⟩ | ⟨q, rfl, h1, h2⟩ <;> rcases side k' hk' with ⟨h3, h4⟩ | ⟨q', rfl, h3, h4⟩
    · exact ho.inj k k' b h1 h3
    · omega
    · omega
    · rw [hinj q q' b h1 h3]
  · rcases hfresh b hm with h | h
    · exact ho.new b h
    · exact Nat.le_trans hw (hnew b h).1
  · rcases cases3 k with h | ⟨q, h, rfl⟩ | h
    · rw [g1 k h] at hk
      refine (ho.blk k b blk hk hbk).keep (Stp.below hb) (fun c hc ha => ?_) (join_get hmono) (fun c e => hb.block c (by cases e; exact hlt b (List.mem_of_getElem? hk)))
      rcases ha with ha | ha
      · exact .inl ha
      · rcases hfresh c ha with h' | h'
        · exact .inr h'
        · have := (hnew c h').1; omega
    · rw [g2 q h] at hk
      rw [hH q h] at hbk
      exact hblk ho q b blk hk hbk
    · rw [g3 k h] at hk
      refine (ho.blk k b blk hk hbk).keep (Stp.below hb) (fun c hc ha => ?_) (join_get hmono) (fun c e => hb.block c (by cases e; exact hlt b (List.mem_of_getElem? hk)))
      rcases ha with ha | ha
      · exact .inl ha
      · rcases hfresh c ha with h' | h'
        · exact .inr h'
        · have := (hnew c h').1; omega

/-- The names from p on, filled. -/
theorem fill_get {g γ : List (Option Nat)} {p : Nat} (hlen : p + γ.length ≤ g.length) : (∀ k, k < γ.length → (g.take p ++ (γ ++ g.drop (p + γ.length)))[p + k]? = γ[k]?) ∧ ∀ k, ¬ (p ≤ k ∧ k < p + γ.length) → (g.take p ++ (γ ++ g.drop (p + γ.length)))[k]? = g[k]? := by
  have htl : (g.take p).length = p := by simp; omega
  refine ⟨fun k hk => ?_, fun k hk => ?_⟩
  · rw [List.getElem?_append_right (by omega), htl, Nat.add_sub_cancel_left, List.getElem?_append_left hk]
  · by_cases h : k < p
    · rw [List.getElem?_append_left (by omega), List.getElem?_take_of_lt h]
    · rw [List.getElem?_append_right (by omega), htl, List.getElem?_append_right (by omega), List.getElem?_drop]
      congr 1; omega

theorem dop_still {o : Oper} {op : IOp} (hc : cop P o = some op) (h1 : ∀ t, o.op ≠ .alloc t) (h2 : ∀ t x, o.op ≠ .box t x) (h3 : ∀ t x y, o.op ≠ .makeSlice t x y) (h4 : ∀ c, o.op ≠ .call c) : ∀ (e : Env) (H : List Blk) (K : SV → List Blk → Prop), dop P op e H K → pop P op e H fun sv => K sv [] := by
  have no : (∀ z, op ≠ .al z) ∧ (∀ x, op ≠ .bx x) ∧ (∀ a b z l c, op ≠ .mk a b z l c) ∧ (∀ f xs, op ≠ .call f xs) := by
    obtain ⟨q, hq⟩ : ∃ q, o.op = q := ⟨_, rfl⟩
    unfold cop at hc
    rw [hq] at hc
    cases q
    case alloc t => exact absurd hq (h1 t)
    case box t x => exact absurd hq (h2 t x)
    case makeSlice t x y => exact absurd hq (h3 t x y)
    case call c => exact absurd hq (h4 c)
    case' makeFunc fn first caps => cases fn
    all_goals
      dsimp only at hc
      repeat' split at hc
      all_goals first
        | (cases hc; exact ⟨(fun _ h => nomatch h), (fun _ h => nomatch h), (fun _ _ _ _ _ h => nomatch h), (fun _ _ h => nomatch h)⟩)
        | (obtain ⟨_, _, rfl⟩ := Option.map_eq_some_iff.1 hc; exact ⟨(fun _ h => nomatch h), (fun _ h => nomatch h), (fun _ _ _ _ _ h => nomatch h), (fun _ _ h => nomatch h)⟩)
        | (obtain ⟨_, _, hc⟩ := Option.bind_eq_some_iff.1 hc; split at hc <;> cases hc; exact ⟨(fun _ h => nomatch h), (fun _ h => nomatch h), (fun _ _ _ _ _ h => nomatch h), (fun _ _ h => nomatch h)⟩)
        | cases hc
  intro e H K h
  cases op
  case al z => exact absurd rfl (no.1 z)
  case bx x => exact absurd rfl (no.2.1 x)
  case mk a b z l c => exact absurd rfl (no.2.2.1 a b z l c)
  case call f xs => exact absurd rfl (no.2.2.2 f xs)
  all_goals exact h

theorem dop_sound (hWR : WRel w A β H) {o : Oper} {op : IOp} {e : Env} {Hp : List Blk} {K : SV → List Blk → Prop} (hc : cop P o = some op) (h : dop P op e (H ++ Hp) K) :
    ∃ sv Hn, K sv Hn ∧ ∀ (Hall : List Blk), (Hp ++ Hn) <+: Hall → ∀ (s : GS) (a : Act), Below w.heap.size w s.1 → Okk w A β Hall s → (∀ k, k < Hn.length → s.2[Hp.length + k]? = some none) → (∀ t, Operand.tmp t ∈ o.op.operands → RF A β (look e t) (a.tmps.getD t undef) s) →
      rel P o a s.1 fun v w' => ∃ g', RS w A β Hall s (w', g') ∧ RF A β sv v (w', g') ∧ (∀ k, k < Hn.length → ∃ b, g'[Hp.length + k]? = some (some b)) ∧ ∀ k, ¬ (Hp.length ≤ k ∧ k < Hp.length + Hn.length) → g'[k]? = s.2[k]? := by
  -- what turns nothing
  have still : (pop P op e (H ++ Hp) fun sv => K sv []) → ∃ sv Hn, K sv Hn ∧ ∀ (Hall : List Blk), (Hp ++ Hn) <+: Hall → ∀ (s : GS) (a : Act), Below w.heap.size w s.1 → Okk w A β Hall s → (∀ k, k < Hn.length → s.2[Hp.length + k]? = some none) → (∀ t, Operand.tmp t ∈ o.op.operands → RF A β (look e t) (a.tmps.getD t undef) s) →
      rel P o a s.1 fun v w' => ∃ g', RS w A β Hall s (w', g') ∧ RF A β sv v (w', g') ∧ (∀ k, k < Hn.length → ∃ b, g'[Hp.length + k]? = some (some b)) ∧ ∀ k, ¬ (Hp.length ≤ k ∧ k < Hp.length + Hn.length) → g'[k]? = s.2[k]? := by
    intro h
    obtain ⟨sv, hK, hg⟩ := pop_sound hc h
    refine ⟨sv, [], hK, fun Hall hpre s a hb ho _ hr => ?_⟩
    rw [List.append_nil] at hpre
    refine rel_mono (hg s.1 (AS A s) (β ++ s.2) a ho.fin (wb_at hWR hb ho Hp hpre) hr) fun v w' ⟨hb', hrep⟩ => ?_
    have hRS : RS w A β Hall s (w', s.2) := ⟨hb', fun _ _ h => h, fun _ h => .inl h, fun ho => ⟨fun b ha => Nat.lt_of_lt_of_le (ho.fin b ha) hb'.size, ho.inj, ho.new, ho.len, fun k b blk hk hbk => (ho.blk k b blk hk hbk).keep (Stp.below hb') (fun _ _ h => h) (fun _ _ h => h) (fun c e => hb'.block c (by cases e; exact ho.fin b (.inr (List.mem_of_getElem? hk))))⟩⟩
    exact ⟨s.2, hRS, hrep, fun k hk => absurd hk (Nat.not_lt_zero _), fun _ _ => rfl⟩
  -- one new block, at the end of the heap
  have one : ∀ (sv : SV) (blk : Blk) (v : World → Value) (w2 : World → World), K sv [blk] → (∀ (s : GS) (a : Act), Below w.heap.size w s.1 → (∀ t, Operand.tmp t ∈ o.op.operands → RF A β (look e t) (a.tmps.getD t undef) s) → (∀ b, AS A s b → b < s.1.heap.size) →
      (∃ vv ww, (execOp a.eval o).run P s.1 = .ok (.value vv) ww ∧ Below s.1.heap.size s.1 ww ∧ s.1.heap.size < ww.heap.size ∧
        (∀ (A2 : Nat → Prop) (β2 : List (Option Nat)), (∀ b, b < s.1.heap.size → A2 b → AS A s b) → (∀ (k b : Nat), (β ++ s.2)[k]? = some (some b) → β2[k]? = some (some b)) → β2[(H ++ Hp).length]? = some (some s.1.heap.size) → BlkRel ww A2 β2 (some s.1.heap.size) blk ∧ Rep ww A2 β2 sv vv))) →
      ∃ sv Hn, K sv Hn ∧ ∀ (Hall : List Blk), (Hp ++ Hn) <+: Hall → ∀ (s : GS) (a : Act), Below w.heap.size w s.1 → Okk w A β Hall s → (∀ k, k < Hn.length → s.2[Hp.length + k]? = some none) → (∀ t, Operand.tmp t ∈ o.op.operands → RF A β (look e t) (a.tmps.getD t undef) s) →
      rel P o a s.1 fun v w' => ∃ g', RS w A β Hall s (w', g') ∧ RF A β sv v (w', g') ∧ (∀ k, k < Hn.length → ∃ b, g'[Hp.length + k]? = some (some b)) ∧ ∀ k, ¬ (Hp.length ≤ k ∧ k < Hp.length + Hn.length) → g'[k]? = s.2[k]? := by
    intro sv blk _ _ hK hrun
    refine ⟨sv, [blk], hK, fun Hall hpre s a hb ho hun hr => ?_⟩
    obtain ⟨vv, ww, hrun, hbw, hlt, hrel⟩ := hrun s a hb hr ho.fin
    have hplen : Hp.length + 1 ≤ s.2.length := by
      have := hpre.length_le
      rw [ho.len]; simpa using this
    have hHall : Hall[Hp.length]? = some blk := by
      obtain ⟨t, rfl⟩ := hpre
      rw [List.append_assoc, List.getElem?_append_right (Nat.le_refl _), Nat.sub_self]; rfl
    have hfg := fill_get (g := s.2) (γ := [some s.1.heap.size]) (p := Hp.length) (by simpa using hplen)
    have hname : (β ++ (s.2.take Hp.length ++ ([some s.1.heap.size] ++ s.2.drop (Hp.length + [some s.1.heap.size].length))))[(H ++ Hp).length]? = some (some s.1.heap.size) := by
      rw [List.length_append, ← hWR.len, List.getElem?_append_right (by omega), Nat.add_sub_cancel_left]
      have := hfg.1 0 (by simp)
      simpa using this
    have hmono : ∀ (k b : Nat), s.2[k]? = some (some b) → (s.2.take Hp.length ++ ([some s.1.heap.size] ++ s.2.drop (Hp.length + [some s.1.heap.size].length)))[k]? = some (some b) := fun k b hk => by
      by_cases e : Hp.length ≤ k ∧ k < Hp.length + [some s.1.heap.size].length
      · have e' : k = Hp.length := by simp at e; omega
        have := hun 0 (by simp)
        rw [e'] at hk
        simp only [Nat.add_zero] at this
        rw [this] at hk; cases hk
      · rw [hfg.2 k e]; exact hk
    have hA2 : ∀ b, b < s.1.heap.size → AS A (ww, s.2.take Hp.length ++ ([some s.1.heap.size] ++ s.2.drop (Hp.length + [some s.1.heap.size].length))) b → AS A s b := fun b hb' ha => by
      rcases ha with ha | ha
      · exact .inl ha
      · simp only [List.mem_append, List.mem_singleton] at ha
        rcases ha with h | h | h
        · exact .inr (List.mem_of_mem_take h)
        · cases h; omega
        · exact .inr (List.mem_of_mem_drop h)
    obtain ⟨hblk, hrep⟩ := hrel _ (β ++ (s.2.take Hp.length ++ ([some s.1.heap.size] ++ s.2.drop (Hp.length + [some s.1.heap.size].length)))) hA2 (fun k b hk => by
        by_cases hl : k < β.length
        · rw [List.getElem?_append_left hl] at hk ⊢; exact hk
        · rw [List.getElem?_append_right (by omega)] at hk ⊢; exact hmono _ _ hk) hname
    refine rel_value hrun ⟨_, RS.make (γ := [some s.1.heap.size]) (Hn := [blk]) (p := Hp.length) hb.size hbw (by simpa using hplen) (fun k hk => hun k (by simpa using hk)) (fun o ho => by simp at ho; rw [ho]; rfl) (fun b hm => by simp at hm; subst hm; exact ⟨Nat.le_refl _, hlt⟩)
      (fun k k' b hk hk' => ?_) (fun k hk => ?_) (fun _ k b blk' hk hbk => ?_), hrep, fun k hk => ?_, fun k hk => hfg.2 k (by simpa using hk)⟩
    · have h1 := (List.getElem?_eq_some_iff.1 hk).1
      have h2 := (List.getElem?_eq_some_iff.1 hk').1
      simp at h1 h2; omega
    · simp at hk; subst hk; simpa using hHall
    · have h1 := (List.getElem?_eq_some_iff.1 hk).1
      simp at h1; subst h1
      simp at hk hbk
      subst hk hbk
      exact hblk
    · simp at hk; subst hk
      exact ⟨s.1.heap.size, by simpa using hfg.1 0 (by simp)⟩
  obtain ⟨q, hop⟩ : ∃ q, o.op = q := ⟨_, rfl⟩
  cases q with
  | alloc t =>
    simp only [cop, hop] at hc
    obtain ⟨z, hz, rfl⟩ := Option.map_eq_some_iff.1 hc
    refine one _ _ (fun _ => undef) id h fun s a hb hr hfin => ?_
    obtain ⟨v, hv, hvz⟩ := run_zero (P := P) hz
    subst hvz
    refine ⟨.pointer (some ⟨s.1.heap.size, 0, none⟩), s.1.alloc (.cells v.cells t), by simp [execOp, hop, Instr.alloc, hv, newVar, newRow], (Below.refl _ _).alloc (Nat.le_refl _) _, by simp, fun A2 β2 hA2 hβ hn => ⟨?_, ?_⟩⟩
    · refine ⟨v.cells.toList, t, by simpa using World.alloc_heap_new _ _, by simp, fun j c u h1 h2 => ?_⟩
      simp only [List.getElem?_map, h2, Option.map_some, Option.some.injEq] at h1
      exact h1 ▸ ofVal1_rep u
    · simpa using Rep.ptr (w := s.1.alloc (.cells v.cells t)) (A := A2) β2 (H ++ Hp).length 0 0 0 s.1.heap.size hn
  | box t x =>
    simp only [cop, hop, Option.some.injEq] at hc; subst hc
    simp only [dop] at h
    split at h
    · rename_i fs hfs
      refine one _ _ (fun _ => undef) id h fun s a hb hr hfin => ?_
      have hf := cellsOf_reps hfs (ev_rep (w := s.1) (A := AS A s) (β := β ++ s.2) (e := e) (a := a) x fun t ht => hr t (by simp [hop, Op.operands, ht]))
      have hbw : Below s.1.heap.size s.1 (s.1.alloc (.cells (a.eval x).cells t)) := (Below.refl _ _).alloc (Nat.le_refl _) _
      refine ⟨.pointer (some ⟨s.1.heap.size, 0, none⟩), _, by simp [execOp, hop, Instr.box, newVar, newRow], hbw, by simp, fun A2 β2 hA2 hβ hn => ⟨?_, ?_⟩⟩
      · exact ⟨(a.eval x).cells.toList, t, by simpa using World.alloc_heap_new _ _, hf.1, fun j c u h1 h2 => ((hf.2 j c u h1 h2).mono (Stp.below hbw) hA2).more _ hβ⟩
      · simpa using Rep.ptr (w := s.1.alloc (.cells (a.eval x).cells t)) (A := A2) β2 (H ++ Hp).length 0 0 0 s.1.heap.size hn
    · exact h.elim
  | makeSlice t l c =>
    simp only [cop, hop] at hc
    split at hc
    · rename_i el hu
      split at hc
      · rename_i i z hi hz
        split at hc
        · rename_i hcond
          cases hc
          simp only [dop] at h
          obtain ⟨kl, lz, hl, h⟩ := asI_ex h
          obtain ⟨kc, cz, hc, h0, hlc, hbytes, h63, hp, hK⟩ := asI_ex h
          refine one _ _ (fun _ => undef) id hK fun s a hb hr hfin => ?_
          have h1 := rep_int (hl ▸ ev_rep (w := s.1) (A := AS A s) (β := β ++ s.2) (e := e) (a := a) l fun t ht => hr t (by simp [hop, Op.operands, ht]))
          have h2 := rep_int (hc ▸ ev_rep (w := s.1) (A := AS A s) (β := β ++ s.2) (e := e) (a := a) c fun t ht => hr t (by simp [hop, Op.operands, ht]))
          obtain ⟨v, hv, hvz⟩ := run_zero (P := P) hz
          unfold zeroOf at hz
          obtain ⟨v', hv', _⟩ := Option.map_eq_some_iff.1 hz
          have hzi : i.zero = some v' := by simpa [hi] using hv'
          have hvv : v' = v := by
            have := hv w
            simp [zeroValue, run_typeInfo hi, hzi] at this
            exact this
          subst hvv
          subst hvz
          have hvs : v'.cells.size = i.size := by rw [← hcond.1]; simp
          have hrun := run_make (P := P) s.1 t el i v' hu hi hzi kl kc lz cz h0 hlc hbytes h63
          have hbw : Below s.1.heap.size s.1 (s.1.alloc (.cells (madeCells v'.cells (cz.toNat * i.size)) el)) := (Below.refl _ _).alloc (Nat.le_refl _) _
          have hnew := World.alloc_heap_new s.1 (.cells (madeCells v'.cells (cz.toNat * i.size)) el)
          refine ⟨_, _, by simp only [execOp, hop, h1, h2, Sem.run_bind, hrun, Result.andThen_ok, Sem.run_pure]; rfl, hbw, by simp, fun A2 β2 hA2 hβ hn => ⟨?_, ?_⟩⟩
          · have hrow : Row (s.1.alloc (.cells (madeCells v'.cells (cz.toNat * i.size)) el)) A2 i.size (List.replicate lz.toNat (v'.cells.toList.map ofVal1)) (madeCells v'.cells (cz.toNat * i.size)).toList :=
              row_zero lz.toNat i.size v'.cells hvs hcond.2 hp (cz.toNat * i.size) (Nat.mul_le_mul_right _ (by omega))
            exact ⟨(madeCells v'.cells (cz.toNat * i.size)).toList, el, by simpa using hnew, hrow.1, hrow.2⟩
          · have := Rep.osl (w := s.1.alloc (.cells (madeCells v'.cells (cz.toNat * i.size)) el)) (A := A2) β2 (H ++ Hp).length i.size 0 lz.toNat s.1.heap.size cz.toNat hn (by omega) ⟨_, _, _, hnew, by rw [size_madeCells]; simp⟩
            simpa using this
        · cases hc
      · cases hc
    · cases hc
  | call c =>
    have hc' := hc
    simp only [cop, hop] at hc
    split at hc
    · rename_i f hf
      cases hc
      simp only [dop] at h
      split at h
      · rename_i g caps hfn
        rcases h with ⟨hp, res, hFS, hK⟩ | ⟨hp, res, Hn, hFO, hK⟩ | h
        · exact still (by simp only [pop, hfn]; exact .inl ⟨hp, res, hFS, hK⟩)
        rotate_left
        · exact still (by simp only [pop, hfn]; exact .inr h)
        · refine ⟨_, _, hK, fun Hall hpre s a hb ho hun hr => ?_⟩
          rw [shiftH_length] at hun ⊢
          have hr' : ∀ x, x ∈ o.op.operands → Rep s.1 (AS A s) (β ++ s.2) (ev e (cOpd x)) (a.eval x) := fun x hx => ev_rep x fun t ht => hr t (ht ▸ hx)
          have hfrep := hr' f (by simp [hop, Op.operands, Call.operands, hf])
          have hfe : ev e (cOpd f) = .fn g caps := by
            unfold fnsOf at hfn; split at hfn
            · rename_i g' caps' he; cases hfn; exact he
            · cases hfn
          rw [hfe] at hfrep
          generalize hav : a.eval f = v at hfrep
          cases hfrep
          rename_i vs hl hh
          have hargs := map_reps (e := e) (a := a) c.args.toList fun x hx => hr' x (by simp [hop, Op.operands, Call.operands, hf]; exact .inr (by simpa using hx))
          have hall := reps_purely (reps_append hargs ⟨hl, hh⟩) hp []
          have hrun : (execOp a.eval o).run P s.1 = .ok (.enter g (c.args.toList.map a.eval ++ vs).toArray) s.1 := by
            simp only [execOp, hop, resolve, hf, hav, Deferred.ofValue, Sem.run_bind, Sem.run_pure, Result.andThen_ok, invoke]
            have : (#[] ++ c.args.map a.eval ++ vs.toArray) = (c.args.toList.map a.eval ++ vs).toArray := by
              apply Array.ext'; simp
            rw [this]
            exact hFO.1 _ _
          unfold rel
          rw [hrun]
          refine (hFO.2 s.1 (AS A s) _ ho.fin hall).mono ?_
          rintro e' w' ⟨v, γ, rfl, hbw, hW, hnew, hsome, hrep⟩
          have hγ : γ.length = Hn.length := hW.len
          have hplen : Hp.length + γ.length ≤ s.2.length := by
            have := hpre.length_le
            rw [ho.len, hγ]; simpa [shiftH_length] using this
          have hfg := fill_get (g := s.2) (γ := γ) (p := Hp.length) hplen
          have hname : ∀ (k b : Nat), γ[k]? = some (some b) → (β ++ (s.2.take Hp.length ++ (γ ++ s.2.drop (Hp.length + γ.length))))[(H ++ Hp).length + k]? = some (some b) := fun k b hk => by
            rw [List.length_append, ← hWR.len, List.getElem?_append_right (by omega), show β.length + Hp.length + k - β.length = Hp.length + k by omega, hfg.1 k (List.getElem?_eq_some_iff.1 hk).1]; exact hk
          have hA2 : ∀ b, b < w'.heap.size → AS A (w', s.2.take Hp.length ++ (γ ++ s.2.drop (Hp.length + γ.length))) b → AS A s b ∨ some b ∈ γ := fun b _ ha => by
            rcases ha with ha | ha
            · exact .inl (.inl ha)
            · simp only [List.mem_append] at ha
              rcases ha with h | h | h
              · exact .inl (.inr (List.mem_of_mem_take h))
              · exact .inr h
              · exact .inl (.inr (List.mem_of_mem_drop h))
          -- a list of names of the right length ahead of the new ones
          have hlen0 : (List.replicate (H ++ Hp).length (none : Option Nat)).length = (H ++ Hp).length := by simp
          have hmore : ∀ (k b : Nat), (List.replicate (H ++ Hp).length (none : Option Nat) ++ γ)[k]? = some (some b) → (β ++ (s.2.take Hp.length ++ (γ ++ s.2.drop (Hp.length + γ.length))))[k]? = some (some b) := fun k b hk => by
            by_cases hkl : k < (H ++ Hp).length
            · rw [List.getElem?_append_left (by simpa using hkl), List.getElem?_replicate_of_lt hkl] at hk; simp at hk
            · rw [List.getElem?_append_right (by simpa using hkl), hlen0] at hk
              have := hname _ b hk
              rwa [show (H ++ Hp).length + (k - (H ++ Hp).length) = k by omega] at this
          refine ⟨v, rfl, _, RS.make (γ := γ) (Hn := shiftH (H ++ Hp).length Hn) (p := Hp.length) hb.size hbw hplen (fun k hk => hun k (by omega)) hsome (fun b hm => ⟨hnew b hm, ?_⟩) (fun k k' b h1 h2 => hW.inj k k' b h1 h2) (fun k hk => ?_) (fun _ k b blk hk hbk => ?_), ?_, fun k hk => ?_, fun k hk => hfg.2 k (by rw [hγ]; exact hk)⟩
          · obtain ⟨k, hk, he⟩ := List.getElem_of_mem hm
            exact (hW.own k b (by simp [hk, he])).2
          · obtain ⟨t, rfl⟩ := hpre
            rw [List.append_assoc, List.getElem?_append_right (by omega), Nat.add_sub_cancel_left, List.getElem?_append_left (by rw [shiftH_length]; omega)]
          · rw [shiftH_get] at hbk
            obtain ⟨blk', hblk', rfl⟩ := Option.map_eq_some_iff.1 hbk
            have h1 := (hW.blk k (some b) blk' hk hblk').shift (List.replicate (H ++ Hp).length none)
            rw [hlen0] at h1
            exact h1.keep (Stp.refl _ _) hA2 hmore (fun _ _ => rfl)
          · have h1 := hrep.shift (List.replicate (H ++ Hp).length none)
            rw [hlen0] at h1
            exact (h1.mono (Stp.refl _ _) hA2).more _ hmore
          · obtain ⟨b, hb'⟩ := Option.isSome_iff_exists.1 (hsome (γ[k]'(by omega)) (List.getElem_mem _))
            exact ⟨b, by rw [hfg.1 k (by omega), List.getElem?_eq_getElem (by omega), hb']⟩
      · exact h.elim
    · cases hc
    · rename_i b hb
      split at hc
      · cases hc; exact still h
      · cases hc; exact still h
      · cases hc; exact still h
      · cases hc; exact still h
      · split at hc
        · split at hc
          · cases hc; exact still h
          · cases hc
        · cases hc
      · split at hc
        · split at hc
          · cases hc; exact still h
          · cases hc
        · cases hc
      · cases hc; exact still h
  | _ => exact still (dop_still hc (fun t h => by rw [hop] at h; cases h) (fun t x h => by rw [hop] at h; cases h) (fun t x y h => by rw [hop] at h; cases h) (fun c h => by rw [hop] at h; cases h) _ _ _ h)

end
end Go.Proofs.Ytefciekodhpefaa
