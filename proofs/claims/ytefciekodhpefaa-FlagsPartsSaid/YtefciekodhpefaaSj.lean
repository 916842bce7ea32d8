/- Operations that make blocks or write into one's own: what is shown of them is what they do. -/
import Derived.Test.YtefciekodhpefaaSi
namespace Go.Proofs.Ytefciekodhpefaa
open Go.RowKit

section
variable {P : Program} {w0 : World} {A0 : Nat → Prop} {β0 : List (Option Nat)} {M : Nat} {ks : List Nat} {w : World} {A : Nat → Prop} {β : List (Option Nat)} {H : List Blk}

/-- A block more to write into. -/
abbrev plus (A : Nat → Prop) (b : Nat) : Nat → Prop := fun x => A x ∨ x = b

theorem Cur.own (h : Cur w0 A0 β0 M ks w A β H) : ∀ (k b : Nat), β[k]? = some (some b) → A b := fun k b hk => (h.rel.own k b hk).1

theorem Cur.below {w1 : World} (h : Cur w0 A0 β0 M ks w A β H) (hb : Below w.heap.size w w1) : Cur w0 A0 β0 M ks w1 A β H :=
  ⟨h.rel.step (Stp.below hb) fun k b hk => hb.block b (h.rel.own k b hk).2, fun b ha => Nat.lt_of_lt_of_le (h.fin b ha) hb.size, h.frm.step (Frm.below hb) h.fresh, h.agree, h.fresh, h.same, h.more⟩

theorem Cur.push {w1 : World} {b : Nat} {blk : Blk} (h : Cur w0 A0 β0 M ks w A β H) (hb : Below w.heap.size w w1) (h1 : w.heap.size ≤ b) (h2 : b < w1.heap.size) (hblk : BlkRel w1 (plus A b) (β ++ [some b]) (some b) blk) :
    Cur w0 A0 β0 M ks w1 (plus A b) (β ++ [some b]) (H ++ [blk]) := by
  have hlt : ∀ (k c : Nat), β[k]? = some (some c) → c < w.heap.size := fun k c hk => (h.rel.own k c hk).2
  have hkl : ∀ k, k < β.length → (β ++ [some b])[k]? = β[k]? := fun k hk => List.getElem?_append_left hk
  have hkr : ∀ (k : Nat) (o : Option Nat), ¬ k < β.length → (β ++ [some b])[k]? = some o → k = β.length ∧ o = some b := fun k o hk ho => by
    rw [List.getElem?_append_right (by omega)] at ho
    have : k - β.length = 0 := by
      have := (List.getElem?_eq_some_iff.1 ho).1
      simp at this; omega
    rw [this] at ho
    simp at ho
    exact ⟨by omega, ho.symm⟩
  have w0le := h.frm.size
  refine ⟨⟨by simp [h.rel.len], fun k k' c hk hk' => ?_, fun k c hk => ?_, fun k o bk ho hbk => ?_⟩, fun c hc => ?_, h.frm.step (Frm.below hb) h.fresh, fun c hc => ?_, fun k c hk hc => ?_, fun k hk hn => ?_, by simp; have := h.more; omega⟩
  · by_cases e : k < β.length <;> by_cases e' : k' < β.length
    · rw [hkl k e] at hk; rw [hkl k' e'] at hk'; exact h.rel.inj k k' c hk hk'
    · rw [hkl k e] at hk; obtain ⟨_, e2⟩ := hkr k' _ e' hk'; have := hlt k c hk; simp at e2; omega
    · rw [hkl k' e'] at hk'; obtain ⟨_, e2⟩ := hkr k _ e hk; have := hlt k' c hk'; simp at e2; omega
    · exact (hkr k _ e hk).1.trans (hkr k' _ e' hk').1.symm
  · by_cases e : k < β.length
    · rw [hkl k e] at hk; exact ⟨.inl (h.rel.own k c hk).1, Nat.lt_of_lt_of_le (hlt k c hk) hb.size⟩
    · obtain ⟨_, e2⟩ := hkr k _ e hk; simp at e2; subst e2; exact ⟨.inr rfl, h2⟩
  · by_cases e : k < β.length
    · rw [hkl k e] at ho
      rw [List.getElem?_append_left (by rw [← h.rel.len]; exact e)] at hbk
      refine (h.rel.blk k o bk ho hbk).keep (Stp.below hb) (fun c hc ha => ha.resolve_right (by omega)) (fun k' c hc => ?_) (fun c hc => hb.block c (hlt k c (by rw [ho, hc])))
      rw [hkl k' (List.getElem?_eq_some_iff.1 hc).1]; exact hc
    · obtain ⟨e1, e2⟩ := hkr k _ e ho
      subst e1 e2
      rw [List.getElem?_append_right (by rw [h.rel.len]; exact Nat.le_refl _), h.rel.len] at hbk
      simp at hbk
      rw [← hbk]; exact hblk
  · rcases hc with hc | rfl
    · exact Nat.lt_of_lt_of_le (h.fin c hc) hb.size
    · exact h2
  · constructor
    · intro hc'; exact (h.agree c hc).1 (hc'.resolve_right (by omega))
    · intro hc'; exact .inl ((h.agree c hc).2 hc')
  · by_cases e : k < β.length
    · rw [hkl k e] at hk; exact h.fresh k c hk hc
    · obtain ⟨_, e2⟩ := hkr k _ e hk; simp at e2; omega
  · have := h.more
    rw [hkl k (by omega)]; exact h.same k hk hn

/-- A slice that is nil yet, to be one's own. -/
theorem Cur.nil {wd : Nat} (h : Cur w0 A0 β0 M ks w A β H) : Cur w0 A0 β0 M ks w A (β ++ [none]) (H ++ [.arr wd []]) := by
  have hkl : ∀ k, k < β.length → (β ++ [none])[k]? = β[k]? := fun k hk => List.getElem?_append_left hk
  have hks : ∀ (k c : Nat), (β ++ [none])[k]? = some (some c) → k < β.length ∧ β[k]? = some (some c) := fun k c hk => by
    by_cases e : k < β.length
    · rw [hkl k e] at hk; exact ⟨e, hk⟩
    · rw [List.getElem?_append_right (by omega)] at hk
      have := (List.getElem?_eq_some_iff.1 hk).1
      simp at this
      have e0 : k - β.length = 0 := by omega
      rw [e0] at hk; simp at hk
  refine ⟨⟨by simp [h.rel.len], fun k k' c hk hk' => h.rel.inj k k' c (hks k c hk).2 (hks k' c hk').2, fun k c hk => h.rel.own k c (hks k c hk).2, fun k o bk ho hbk => ?_⟩, h.fin, h.frm, h.agree, fun k c hk hc => h.fresh k c (hks k c hk).2 hc, fun k hk hn => ?_, by simp; have := h.more; omega⟩
  · by_cases e : k < β.length
    · rw [hkl k e] at ho
      rw [List.getElem?_append_left (by rw [← h.rel.len]; exact e)] at hbk
      refine (h.rel.blk k o bk ho hbk).keep (Stp.refl _ _) (fun _ _ h => h) (fun k' c hc => ?_) (fun _ _ => rfl)
      rw [hkl k' (List.getElem?_eq_some_iff.1 hc).1]; exact hc
    · rw [List.getElem?_append_right (by omega)] at ho
      rw [List.getElem?_append_right (by rw [← h.rel.len]; omega), ← h.rel.len] at hbk
      have := (List.getElem?_eq_some_iff.1 ho).1
      simp at this
      have e0 : k - β.length = 0 := by omega
      rw [e0] at ho hbk
      simp at ho hbk
      rw [← ho]; trivial
  · have := h.more
    rw [hkl k (by omega)]; exact h.same k hk hn

/-- What is written into a row. -/
theorem setRow_frm {b : Nat} {cs cs' : List Value} {T : TypeId} {fr : Nat × Nat} (hb : w.heap[b]? = some (.cells cs.toArray T fr)) (hl : cs'.length = cs.length) (k : Nat) (hk : β[k]? = some (some b)) : Frm β w (w.setRow b cs'.toArray) ∧ ∀ c, c ≠ b → (w.setRow b cs'.toArray).heap[c]? = w.heap[c]? := by
  have hother : ∀ c, c ≠ b → (w.setRow b cs'.toArray).heap[c]? = w.heap[c]? := fun c hc => by
    simp [World.setRow, Array.getElem?_modify, Ne.symm hc]
  refine ⟨⟨rfl, rfl, rfl, by simp [World.setRow], fun c _ hn => hother c fun e => hn (by subst e; exact List.mem_of_getElem? hk), fun c cs1 T1 fr1 h1 => ?_⟩, hother⟩
  by_cases e : c = b
  · subst e
    rw [hb] at h1
    cases h1
    exact ⟨_, _, setRow_heap w c _ _ _ _ hb, by simp [hl]⟩
  · exact ⟨cs1, fr1, by rw [hother c e]; exact h1, rfl⟩

theorem Cur.set {k b : Nat} {cs cs' : List Value} {T : TypeId} {blk : Blk} (h : Cur w0 A0 β0 M ks w A β H) (hk : β[k]? = some (some b)) (hb : w.heap[b]? = some (.cells cs.toArray T (0, 0))) (hl : cs'.length = cs.length)
    (hblk : BlkRel (w.setRow b cs'.toArray) A β (some b) blk) : Cur w0 A0 β0 M ks (w.setRow b cs'.toArray) A β (H.set k blk) := by
  obtain ⟨hf, hother⟩ := setRow_frm hb hl k hk
  have hstp := hf.stp h.own
  have hkl : k < H.length := by rw [← h.rel.len]; exact (List.getElem?_eq_some_iff.1 hk).1
  refine ⟨⟨by simp [h.rel.len], h.rel.inj, fun k' c hc => ⟨(h.rel.own k' c hc).1, by have := (h.rel.own k' c hc).2; simpa [World.setRow] using this⟩, fun k' o bk ho hbk => ?_⟩, fun c hc => by simpa [World.setRow] using h.fin c hc, h.frm.step hf h.fresh, h.agree, h.fresh, h.same, h.more⟩
  by_cases e : k = k'
  · subst e
    rw [List.getElem?_set_self hkl] at hbk
    cases hbk
    rw [hk] at ho; cases ho
    exact hblk
  · rw [List.getElem?_set_ne e] at hbk
    refine (h.rel.blk k' o bk ho hbk).keep hstp (fun _ _ h => h) (fun _ _ h => h) fun c hc => hother c fun e' => e ?_
    subst hc e'
    exact h.rel.inj k k' c hk ho

theorem killH_get (k : Nat) : ∀ (H : List Blk) (i : Nat), (killH k H)[i]? = (H[i]?).map (Blk.kill k)
  | [], i => by simp [killH]
  | b :: H, 0 => by simp [killH]
  | b :: H, i + 1 => by simp [killH, killH_get k H i]
theorem killH_length (k : Nat) : ∀ H : List Blk, (killH k H).length = H.length
  | [] => rfl
  | b :: H => by simp [killH, killH_length k H]

theorem Cur.killed (h : Cur w0 A0 β0 M ks w A β H) (k : Nat) : Cur w0 A0 β0 M ks w A β (killH k H) :=
  ⟨⟨by rw [killH_length]; exact h.rel.len, h.rel.inj, h.rel.own, fun k' o bk ho hbk => by
    rw [killH_get] at hbk
    obtain ⟨bk', hbk', rfl⟩ := Option.map_eq_some_iff.1 hbk
    exact (h.rel.blk k' o bk' ho hbk').killed (Stp.refl _ _) (fun _ _ h => h) k (fun _ _ _ h => h) (fun _ _ => rfl)⟩, h.fin, h.frm, h.agree, h.fresh, h.same, h.more⟩

/-- One's own slice has a new array. -/
theorem Cur.move {w1 : World} {k b : Nat} {blk : Blk} (h : Cur w0 A0 β0 M ks w A β H) (hkl : k < β.length) (hks : M ≤ k ∨ k ∈ ks) (hb : Below w.heap.size w w1) (h1 : w.heap.size ≤ b) (h2 : b < w1.heap.size)
    (hblk : BlkRel w1 (plus A b) (β.set k (some b)) (some b) blk) : Cur w0 A0 β0 M ks w1 (plus A b) (β.set k (some b)) ((killH k H).set k blk) := by
  have hlt : ∀ (k c : Nat), β[k]? = some (some c) → c < w.heap.size := fun k c hk => (h.rel.own k c hk).2
  have hg : ∀ (j : Nat) (o : Option Nat), j ≠ k → (β.set k (some b))[j]? = some o → β[j]? = some o := fun j o hj ho => by rwa [List.getElem?_set_ne (Ne.symm hj)] at ho
  have hs : ∀ o : Option Nat, (β.set k (some b))[k]? = some o → o = some b := fun o ho => by rw [List.getElem?_set_self hkl] at ho; exact (Option.some.inj ho).symm
  have w0le := h.frm.size
  refine ⟨⟨by simp [killH_length, h.rel.len], fun i j c hi hj => ?_, fun i c hi => ?_, fun i o bk ho hbk => ?_⟩, fun c hc => ?_, h.frm.step (Frm.below hb) h.fresh, fun c hc => ?_, fun i c hi hc => ?_, fun i hi hn => ?_, by simpa using h.more⟩
  · by_cases e : i = k <;> by_cases e' : j = k
    · rw [e, e']
    · subst e
      have := hs _ hi
      simp at this; subst this
      have := hlt j c (hg j _ e' hj); omega
    · subst e'
      have := hs _ hj
      simp at this; subst this
      have := hlt i c (hg i _ e hi); omega
    · exact h.rel.inj i j c (hg i _ e hi) (hg j _ e' hj)
  · by_cases e : i = k
    · subst e
      have := hs _ hi
      simp at this; subst this
      exact ⟨.inr rfl, h2⟩
    · exact ⟨.inl (h.rel.own i c (hg i _ e hi)).1, Nat.lt_of_lt_of_le (hlt i c (hg i _ e hi)) hb.size⟩
  · by_cases e : i = k
    · subst e
      rw [List.getElem?_set_self (by rw [killH_length, ← h.rel.len]; exact hkl)] at hbk
      cases hbk
      rw [hs o ho]; exact hblk
    · have ho' := hg i o e ho
      rw [List.getElem?_set_ne (Ne.symm e), killH_get] at hbk
      obtain ⟨bk', hbk', rfl⟩ := Option.map_eq_some_iff.1 hbk
      refine (h.rel.blk i o bk' ho' hbk').killed (Stp.below hb) (fun c hc ha => ha.resolve_right (by omega)) k (fun j c hj hc => ?_) (fun c hc => hb.block c (hlt i c (by rw [ho', hc])))
      rw [List.getElem?_set_ne (Ne.symm hj)]; exact hc
  · rcases hc with hc | rfl
    · exact Nat.lt_of_lt_of_le (h.fin c hc) hb.size
    · exact h2
  · exact ⟨fun hc' => (h.agree c hc).1 (hc'.resolve_right (by omega)), fun hc' => .inl ((h.agree c hc).2 hc')⟩
  · by_cases e : i = k
    · subst e
      have := hs _ hi
      simp at this; omega
    · exact h.fresh i c (hg i _ e hi) hc
  · have hik : i ≠ k := fun e => by
      subst e
      exact hn hks
    rw [List.getElem?_set_ne (Ne.symm hik)]; exact h.same i hi hn

/-! ### What they do -/

def Then (K : SV → Env → List Blk → Prop) (w0 : World) (A0 : Nat → Prop) (β0 : List (Option Nat)) (M : Nat) (ks : List Nat) (tmps : Array Value) (v : Value) (w' : World) : Prop :=
  ∃ sv e' H' A' β', K sv e' H' ∧ Cur w0 A0 β0 M ks w' A' β' H' ∧ EnvRel w' A' β' e' tmps ∧ Rep w' A' β' sv v

variable {o : Oper} {op : IOp} {e : Env} {K : SV → Env → List Blk → Prop} {a : Act}

theorem plus_lt {b : Nat} (hb : w.heap.size ≤ b) : ∀ c, c < w.heap.size → plus A b c → A c := fun c hc h => h.resolve_right (by omega)
theorem append_get {β : List (Option Nat)} {γ : List (Option Nat)} : ∀ (k b : Nat), β[k]? = some (some b) → (β ++ γ)[k]? = some (some b) := fun k b h => by
  rw [List.getElem?_append_left (List.getElem?_eq_some_iff.1 h).1]; exact h

theorem al_rel {t : TypeId} (ho : o.op = .alloc t) {z : List SV} (hz : zeroOf P t = some z) (hK : K (.ptr H.length 0 0 0) e (H ++ [.vars z])) (hcur : Cur w0 A0 β0 M ks w A β H) (henv : EnvRel w A β e a.tmps) : rel P o a w (Then K w0 A0 β0 M ks a.tmps) := by
  obtain ⟨v, hv, hvz⟩ := run_zero (P := P) hz
  subst hvz
  have hb : Below w.heap.size w (w.alloc (.cells v.cells t)) := (Below.refl _ _).alloc (Nat.le_refl _) _
  refine rel_value (w' := w.alloc (.cells v.cells t)) (v := .pointer (some ⟨w.heap.size, 0, none⟩)) ?run ⟨_, e, _, plus A w.heap.size, β ++ [some w.heap.size], hK, hcur.push hb (Nat.le_refl _) (by simp) ?blk, henv.mono (Stp.below hb) (plus_lt (Nat.le_refl _)) append_get, ?rep⟩
  case run => simp [execOp, ho, Instr.alloc, hv, newVar, newRow]
  case blk =>
    refine ⟨v.cells.toList, t, by simpa using World.alloc_heap_new _ _, by simp, fun j c u h1 h2 => ?_⟩
    simp only [List.getElem?_map, h2, Option.map_some, Option.some.injEq] at h1
    exact h1 ▸ ofVal1_rep u
  case rep =>
    have := Rep.ptr (w := w.alloc (.cells v.cells t)) (A := plus A w.heap.size) (β ++ [some w.heap.size]) H.length 0 0 0 w.heap.size (by rw [List.getElem?_append_right (by rw [hcur.rel.len]; exact Nat.le_refl _), hcur.rel.len]; simp)
    simpa using this

theorem bx_rel {t : TypeId} {x : Operand} (ho : o.op = .box t x) {fs : List SV} (hc : cellsOf (ev e (cOpd x)) = some fs) (hK : K (.ptr H.length 0 0 0) e (H ++ [.vars fs])) (hcur : Cur w0 A0 β0 M ks w A β H) (henv : EnvRel w A β e a.tmps) : rel P o a w (Then K w0 A0 β0 M ks a.tmps) := by
  have hf := cellsOf_reps hc (ev_rep x fun t _ => henv t)
  have hb : Below w.heap.size w (w.alloc (.cells (a.eval x).cells t)) := (Below.refl _ _).alloc (Nat.le_refl _) _
  refine rel_value (w' := w.alloc (.cells (a.eval x).cells t)) (v := .pointer (some ⟨w.heap.size, 0, none⟩)) ?run ⟨_, e, _, plus A w.heap.size, β ++ [some w.heap.size], hK, hcur.push hb (Nat.le_refl _) (by simp) ?blk, henv.mono (Stp.below hb) (plus_lt (Nat.le_refl _)) append_get, ?rep⟩
  case run => simp [execOp, ho, Instr.box, newVar, newRow]
  case blk => exact ⟨(a.eval x).cells.toList, t, by simpa using World.alloc_heap_new _ _, hf.1, fun j c u h1 h2 => ((hf.2 j c u h1 h2).mono (Stp.below hb) (plus_lt (Nat.le_refl _))).more _ append_get⟩
  case rep =>
    have := Rep.ptr (w := w.alloc (.cells (a.eval x).cells t)) (A := plus A w.heap.size) (β ++ [some w.heap.size]) H.length 0 0 0 w.heap.size (by rw [List.getElem?_append_right (by rw [hcur.rel.len]; exact Nat.le_refl _), hcur.rel.len]; simp)
    simpa using this

theorem mk_rel {t el : TypeId} {l c : Operand} (ho : o.op = .makeSlice t l c) (hu : P.underlying t = some (.slice el)) {i : TypeInfo} (hi : P.info? el = some i) {z : List SV} (hz : zeroOf P el = some z) (hzl : z.length = i.size) (hs0 : 0 < i.size)
    (h : xop P M ks (.mk i.size i.bytes z (cOpd l) (cOpd c)) e H K) (hcur : Cur w0 A0 β0 M ks w A β H) (henv : EnvRel w A β e a.tmps) : rel P o a w (Then K w0 A0 β0 M ks a.tmps) := by
  simp only [xop] at h
  obtain ⟨kl, lz, hl, h⟩ := asI_ex h
  obtain ⟨kc, cz, hc, h0, hlc, hbytes, h63, hp, hK⟩ := asI_ex h
  have h1 := rep_int (hl ▸ ev_rep l fun t _ => henv t)
  have h2 := rep_int (hc ▸ ev_rep c fun t _ => henv t)
  obtain ⟨v, hv, hvz⟩ := run_zero (P := P) hz
  unfold zeroOf at hz
  obtain ⟨v', hv', _⟩ := Option.map_eq_some_iff.1 hz
  have hzi : i.zero = some v' := by simpa [hi] using hv'
  have hvv : v' = v := by
    have := hv w
    simp [zeroValue, run_typeInfo hi, hzi] at this
    exact this
  subst hvv
  subst hvz
  have hvs : v'.cells.size = i.size := by rw [← hzl]; simp
  have hrun := run_make (P := P) w t el i v' hu hi hzi kl kc lz cz h0 hlc hbytes h63
  have hb : Below w.heap.size w (w.alloc (.cells (madeCells v'.cells (cz.toNat * i.size)) el)) := (Below.refl _ _).alloc (Nat.le_refl _) _
  have hrow : Row (w.alloc (.cells (madeCells v'.cells (cz.toNat * i.size)) el)) (plus A w.heap.size) i.size (List.replicate lz.toNat (v'.cells.toList.map ofVal1)) (madeCells v'.cells (cz.toNat * i.size)).toList :=
    row_zero lz.toNat i.size v'.cells hvs hs0 hp (cz.toNat * i.size) (Nat.mul_le_mul_right _ (by omega))
  have hnew := World.alloc_heap_new w (.cells (madeCells v'.cells (cz.toNat * i.size)) el)
  refine rel_value (w' := w.alloc (.cells (madeCells v'.cells (cz.toNat * i.size)) el)) (v := .slice (some ⟨w.heap.size, 0, none⟩) lz.toNat cz.toNat) ?run ⟨_, e, _, plus A w.heap.size, β ++ [some w.heap.size], hK, hcur.push hb (Nat.le_refl _) (by simp) ?blk, henv.mono (Stp.below hb) (plus_lt (Nat.le_refl _)) append_get, ?rep⟩
  case run => simp [execOp, ho, h1, h2, hrun]
  case blk => exact ⟨(madeCells v'.cells (cz.toNat * i.size)).toList, el, by simpa using hnew, hrow.1, hrow.2⟩
  case rep =>
    have := Rep.osl (w := w.alloc (.cells (madeCells v'.cells (cz.toNat * i.size)) el)) (A := plus A w.heap.size) (β ++ [some w.heap.size]) H.length i.size 0 lz.toNat w.heap.size cz.toNat (by rw [List.getElem?_append_right (by rw [hcur.rel.len]; exact Nat.le_refl _), hcur.rel.len]; simp) (by omega)
      ⟨_, _, _, hnew, by rw [size_madeCells]; simp⟩
    simpa using this

theorem scalar_one {w : World} {A : Nat → Prop} {β : List (Option Nat)} {x : SV} {v : Value} (h : Rep w A β x v) (hs : x.scalar = true) : v.oneCell' = true := by
  cases h <;> first | rfl | (cases hs; done) | skip
  case raw => exact hs

theorem scalarL_mem : ∀ {fs : List SV}, scalarL fs = true → ∀ (i : Nat) (f : SV), fs[i]? = some f → f.scalar = true
  | [], _, i, f, h => by simp at h
  | g :: fs, hs, i, f, h => by
    simp only [scalarL, Bool.and_eq_true] at hs
    cases i with
    | zero => simp at h; exact h ▸ hs.1
    | succ i => exact scalarL_mem hs.2 i f (by simpa using h)

theorem reps_one {w : World} {A : Nat → Prop} {β : List (Option Nat)} {fs : List SV} {vs : List Value} (h : Reps w A β fs vs) (hs : scalarL fs = true) : ∀ v ∈ vs, v.oneCell' = true := fun v hv => by
  obtain ⟨i, hi, he⟩ := List.getElem_of_mem hv
  have hi' : i < fs.length := by rw [← h.1]; exact hi
  exact scalar_one (h.2 i fs[i] v (by simp [hi']) (by simp [hi, he])) (scalarL_mem hs i _ (by simp [hi']))

theorem st_rel {t : TypeId} {x y : Operand} (ho : o.op = .store t x y) {s : Nat} (hs : szOf P t = some s) (h : xop P M ks (.st s (cOpd x) (cOpd y)) e H K) (hcur : Cur w0 A0 β0 M ks w A β H) (henv : EnvRel w A β e a.tmps) : rel P o a w (Then K w0 A0 β0 M ks a.tmps) := by
  simp only [xop] at h
  split at h
  · rename_i k wd i j hx
    split at h
    · rename_i fs hfs
      obtain ⟨hlen, hsc, h⟩ := h
      have hf := cellsOf_reps hfs (ev_rep y fun t _ => henv t)
      have hone := reps_one hf hsc
      have hrep := hx ▸ ev_rep x fun t _ => henv t
      generalize hav : a.eval x = v at hrep
      cases hrep
      rename_i b hk
      have hvl : (a.eval y).cells.size = s := by rw [← hlen, ← hf.1]; simp
      have run : ∀ {cs : List Value} {T : TypeId}, w.heap[b]? = some (.cells cs.toArray T (0, 0)) → i * wd + j + s ≤ cs.length →
          (execOp a.eval o).run P w = .ok .skip (w.setRow b (cs.take (i * wd + j) ++ ((a.eval y).cells.toList ++ cs.drop (i * wd + j + (a.eval y).cells.toList.length))).toArray) := by
        intro cs T hb hle
        have := run_storeCells_at P b (i * wd + j) T (a.eval y).cells.toList 0 cs.toArray w hb (by simpa [hvl] using hle) hone
        simp only [execOp, ho, Sem.run_bind, Instr.storeAt, hav, Instr.sureAddr, Sem.run_pure, Result.andThen_ok, storeVar, run_size hs, hvl, ne_eq, not_true, if_false]
        rw [this]
        simp [List.append_assoc]
      split at h
      · rename_i cells hblk
        obtain ⟨hle, hK⟩ := h
        obtain ⟨cs, T, hb, hcl, hcs⟩ := hcur.rel.blk k (some b) _ hk hblk
        have hle' : i * wd + j + s ≤ cs.length := by rw [hcl]; exact hle
        have hl : (cs.take (i * wd + j) ++ ((a.eval y).cells.toList ++ cs.drop (i * wd + j + (a.eval y).cells.toList.length))).length = cs.length := by simp [hvl]; omega
        obtain ⟨hfrm, _⟩ := setRow_frm (cs' := (cs.take (i * wd + j) ++ ((a.eval y).cells.toList ++ cs.drop (i * wd + j + (a.eval y).cells.toList.length)))) hb hl k hk
        have hstp := hfrm.stp hcur.own
        unfold rel
        rw [run hb hle']
        refine ⟨_, e, _, A, β, hK, hcur.set hk hb hl ?_, henv.mono hstp (fun _ _ h => h) (fun _ _ h => h), .any _ _⟩
        have hnew := splice_reps (off := i * wd + j) (w := w) (A := A) (β := β) (z := cells) (fs := fs) (cs := cs) ⟨hcl, hcs⟩ hf (by omega)
        refine ⟨_, T, setRow_heap w b _ _ _ _ hb, hnew.1, fun p c u h1 h2 => (hnew.2 p c u h1 h2).mono hstp (fun _ _ h => h)⟩
      · rename_i wd' xs hblk
        obtain ⟨rfl, hp, hjs, x', hx', hK⟩ := h
        obtain ⟨cs, T, hb, hcl, hcs⟩ := hcur.rel.blk k (some b) _ hk hblk
        have hix : i < xs.length := (List.getElem?_eq_some_iff.1 hx').1
        have hle' : i * wd' + j + s ≤ cs.length := by
          have : (i + 1) * wd' ≤ xs.length * wd' := Nat.mul_le_mul_right _ hix
          rw [Nat.add_mul, Nat.one_mul] at this
          omega
        have hl : (cs.take (i * wd' + j) ++ ((a.eval y).cells.toList ++ cs.drop (i * wd' + j + (a.eval y).cells.toList.length))).length = cs.length := by simp [hvl]; omega
        obtain ⟨hfrm, _⟩ := setRow_frm (cs' := (cs.take (i * wd' + j) ++ ((a.eval y).cells.toList ++ cs.drop (i * wd' + j + (a.eval y).cells.toList.length)))) hb hl k hk
        have hstp := hfrm.stp hcur.own
        unfold rel
        rw [run hb hle']
        refine ⟨_, e, _, A, β, hK, hcur.set hk hb hl ?_, henv.mono hstp (fun _ _ h => h) (fun _ _ h => h), .any _ _⟩
        have hxl := (hcs i x' hx').1
        have hvl' : (a.eval y).cells.toList.length = s := by simpa using hvl
        refine ⟨_, T, setRow_heap w b _ _ _ _ hb, by rw [hl]; simpa using hcl, fun p x'' hp' => ?_⟩
        by_cases hpi : p = i
        · subst hpi
          rw [List.getElem?_set_self hix] at hp'
          cases hp'
          refine ⟨by simp [splice, hlen, hxl]; omega, fun q c hq => ?_⟩
          have hql : q < wd' := by
            have := (List.getElem?_eq_some_iff.1 hq).1
            simp [splice, hlen, hxl] at this; omega
          unfold splice at hq
          by_cases h1 : q < j
          · rw [List.getElem?_append_left (by simp; omega), List.getElem?_take_of_lt h1] at hq
            obtain ⟨u, hu1, hu2⟩ := (hcs p x' hx').2 q c hq
            refine ⟨u, ?_, hu2.mono hstp (fun _ _ h => h)⟩
            rw [List.getElem?_append_left (by simp; omega), List.getElem?_take_of_lt (by omega)]; exact hu1
          · have ej : (x'.take j).length = j := by simp; omega
            rw [List.getElem?_append_right (by omega), ej] at hq
            by_cases h2 : q - j < fs.length
            · rw [List.getElem?_append_left h2] at hq
              obtain ⟨u, hu⟩ : ∃ u, (a.eval y).cells.toList[q - j]? = some u := ⟨(a.eval y).cells.toList[q - j]'(by rw [hf.1]; exact h2), by rw [List.getElem?_eq_getElem]⟩
              refine ⟨u, ?_, ((hf.2 _ c u hq hu).purely (pureL_mem hp _ c hq) []).mono hstp (fun _ _ h => h)⟩
              rw [List.getElem?_append_right (by simp; omega), List.length_take, Nat.min_eq_left (by omega), List.getElem?_append_left (by rw [hf.1]; omega)]
              rw [← hu]; congr 1; omega
            · rw [List.getElem?_append_right (by omega), List.getElem?_drop] at hq
              obtain ⟨u, hu1, hu2⟩ := (hcs p x' hx').2 _ c hq
              refine ⟨u, ?_, hu2.mono hstp (fun _ _ h => h)⟩
              rw [List.getElem?_append_right (by simp; omega), List.length_take, Nat.min_eq_left (by omega), List.getElem?_append_right (by rw [hvl']; omega), List.getElem?_drop, hvl']
              rw [← hu1]; congr 1; omega
        · rw [List.getElem?_set_ne (Ne.symm hpi)] at hp'
          refine ⟨(hcs p x'' hp').1, fun q c hq => ?_⟩
          obtain ⟨u, hu1, hu2⟩ := (hcs p x'' hp').2 q c hq
          refine ⟨u, ?_, hu2.mono hstp (fun _ _ h => h)⟩
          have hql : q < wd' := by rw [← (hcs p x'' hp').1]; exact (List.getElem?_eq_some_iff.1 hq).1
          rcases Nat.lt_or_gt_of_ne hpi with hlt | hgt
          · have : (p + 1) * wd' ≤ i * wd' := Nat.mul_le_mul_right _ hlt
            rw [Nat.add_mul, Nat.one_mul] at this
            rw [List.getElem?_append_left (by simp; omega), List.getElem?_take_of_lt (by omega)]; exact hu1
          · have : (i + 1) * wd' ≤ p * wd' := Nat.mul_le_mul_right _ hgt
            rw [Nat.add_mul, Nat.one_mul] at this
            rw [List.getElem?_append_right (by simp; omega), List.length_take, Nat.min_eq_left (by omega), List.getElem?_append_right (by rw [hvl']; omega), List.getElem?_drop, hvl']
            rw [← hu1]; congr 1; omega
      · exact h.elim
    · exact h.elim
  · exact h.elim

end
end Go.Proofs.Ytefciekodhpefaa
