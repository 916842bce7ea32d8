/- What is shown of code is what it does: code as a whole. -/
import Derived.Test.YtefciekodhpefaaSq
import Derived.Sort.LoopGhostIn
import Derived.Scope
import Derived.RangeFuncRecord
namespace Go.Proofs.Ytefciekodhpefaa
open Go.RowKit

section
variable {P : Program} {w0 : World} {A0 : Nat → Prop} {β0 : List (Option Nat)} {M : Nat} {ks : List Nat} {w : World} {A : Nat → Prop} {β : List (Option Nat)} {H : List Blk}

theorem leV_rep {m : Nat} {x y : SV} {v : Value} (h : leV m x y) (hr : Rep w A β x v) : Rep w A β y v := by
  unfold leV at h
  split at h
  · exact .any _ _
  · split at h
    · obtain ⟨_, _, rfl⟩ := h
      cases hr
      exact .oslZ _ _ _ _ _
    · subst h; exact hr
  · split at h
    · subst h
      cases hr
      exact .slcZ _ _ _
    · subst h; exact hr
  · subst h; exact hr

theorem leE_rep {m : Nat} {e : Env} {tmps : Array Value} (hr : EnvRel w A β e tmps) : ∀ (e' : Env), leE m e e' → EnvRel w A β e' tmps
  | [], _, t => .any _ _
  | (k, y) :: e', h, t => by
    simp only [look]
    split
    · rename_i hk; subst hk; exact leV_rep h.1 (hr k)
    · exact leE_rep hr e' h.2 t

theorem leL_spec {m : Nat} : ∀ (xs ys : List SV), leL m xs ys → xs.length = ys.length ∧ ∀ (j : Nat) (x y : SV), xs[j]? = some x → ys[j]? = some y → leV m x y
  | [], [], _ => ⟨rfl, fun j x y h => by simp at h⟩
  | x :: xs, y :: ys, h => by
    obtain ⟨h1, h2⟩ := leL_spec xs ys h.2
    refine ⟨by simp [h1], fun j x' y' hx hy => ?_⟩
    cases j with
    | zero => simp at hx hy; subst hx hy; exact h.1
    | succ j => exact h2 j x' y' (by simpa using hx) (by simpa using hy)
  | [], y :: ys, h => by simp [leL] at h
  | x :: xs, [], h => by simp [leL] at h

theorem leH_spec {m : Nat} : ∀ (H H' : List Blk), leH m H H' → H.length ≤ H'.length ∧ ∀ (k : Nat) (b b' : Blk), H[k]? = some b → H'[k]? = some b' → leB m b b'
  | [], [], _ => ⟨Nat.le_refl _, fun j x y h => by simp at h⟩
  | x :: xs, y :: ys, h => by
    obtain ⟨h1, h2⟩ := leH_spec xs ys h.2
    refine ⟨by simp; exact h1, fun j x' y' hx hy => ?_⟩
    cases j with
    | zero => simp at hx hy; subst hx hy; exact h.1
    | succ j => exact h2 j x' y' (by simpa using hx) (by simpa using hy)
  | [], y :: ys, h => ⟨by simp, fun j x y h => by simp at h⟩
  | x :: xs, [], h => by simp [leH] at h

theorem leB_rel {m : Nat} {b : Nat} : ∀ {x y : Blk}, leB m x y → BlkRel w A β (some b) x → BlkRel w A β (some b) y
  | _, .dead, _, _ => trivial
  | x, .arr wd ys, h, hr => by
    have : x = .arr wd ys := h
    subst this; exact hr
  | .vars xs, .vars ys, h, hr => by
    obtain ⟨h1, h2⟩ := leL_spec _ _ (show leL m xs ys from h)
    obtain ⟨cs, T, hc, hl, hrep⟩ := hr
    refine ⟨cs, T, hc, by omega, fun j c v hj hv => ?_⟩
    have hjl := (List.getElem?_eq_some_iff.1 hv).1
    obtain ⟨x, hx⟩ : ∃ x, xs[j]? = some x := ⟨_, List.getElem?_eq_getElem (by omega)⟩
    exact leV_rep (h2 j x c hx hj) (hrep j x v hx hv)
  | .dead, .vars ys, h, _ => h.elim
  | .arr _ _, .vars ys, h, _ => h.elim

/-- A place's knowledge may be made less. -/
theorem CurX.weaken {B0 : Nat → Prop} {H' : List Blk} (hH : leH H.length H H') (h : CurX B0 w0 A0 β0 M ks w A β H) : CurX B0 w0 A0 β0 M ks w A (β ++ List.replicate (H'.length - H.length) none) H' := by
  obtain ⟨h1, h2⟩ := leH_spec H H' hH
  have hlen := h.rel.len
  have hget : ∀ (k b : Nat), (β ++ List.replicate (H'.length - H.length) none)[k]? = some (some b) → β[k]? = some (some b) := fun k b hk => by
    by_cases hl : k < β.length
    · rw [List.getElem?_append_left hl] at hk; exact hk
    · rw [List.getElem?_append_right (by omega)] at hk
      have := (List.mem_replicate.1 (List.mem_of_getElem? hk)).2
      cases this
  have hmore : ∀ (k b : Nat), β[k]? = some (some b) → (β ++ List.replicate (H'.length - H.length) none)[k]? = some (some b) := fun k b hk => by
    rw [List.getElem?_append_left (List.getElem?_eq_some_iff.1 hk).1]; exact hk
  refine ⟨⟨by simp [hlen]; omega, fun k k' b hk hk' => h.rel.inj k k' b (hget k b hk) (hget k' b hk'), fun k b hk => h.rel.own k b (hget k b hk), fun k o blk hk hbk => ?_⟩, h.fin, h.frm, h.agree, fun k b hk hb => h.fresh k b (hget k b hk) hb, fun k hk hn => ?_, by simp; exact Nat.le_trans h.more (by omega), h.sub⟩
  · cases o with
    | none => trivial
    | some b =>
      have hk' := hget k b hk
      have hkl : k < H.length := by rw [← hlen]; exact (List.getElem?_eq_some_iff.1 hk').1
      have hx : ∃ x, H[k]? = some x := ⟨_, List.getElem?_eq_getElem hkl⟩
      obtain ⟨x, hx⟩ := hx
      have := leB_rel (h2 k x blk hx hbk) (h.rel.blk k _ x hk' hx)
      exact this.keep (Stp.refl _ _) (fun _ _ h => h) hmore (fun _ _ => rfl)
  · rw [List.getElem?_append_left (Nat.lt_of_lt_of_le hk h.more)]; exact h.same k hk hn

theorem mem_nones {β : List (Option Nat)} {n b : Nat} (h : some b ∈ β ++ List.replicate n none) : some b ∈ β := by
  rcases List.mem_append.1 h with h' | h'
  · exact h'
  · have := (List.mem_replicate.1 h').2
    cases this

theorem nones_more {β : List (Option Nat)} {n : Nat} : ∀ (k b : Nat), β[k]? = some (some b) → (β ++ List.replicate n none)[k]? = some (some b) := fun k b hk => by
  rw [List.getElem?_append_left (List.getElem?_eq_some_iff.1 hk).1]; exact hk

theorem Sta.weaken {y : Yv} {Y : Ysem} (hY : Yok P A0 y Y) {N : Nat} {g : Option Nat} {e e' : Env} {H' : List Blk} {a : Act} (hE : leE H.length e e') (hH : leH H.length H H') (h : Sta w0 A0 β0 M ks N y Y g e H a w A β) : Sta w0 A0 β0 M ks N y Y g e' H' a w A (β ++ List.replicate (H'.length - H.length) none) := by
  refine ⟨h.cur.weaken hH, fun t => (leE_rep h.env e' hE t).more _ nones_more, h.size, ?_, h.nodef, hY.names _ _ _ _ _ h.cur.fin (fun b hb => ⟨mem_nones hb, ?_⟩) h.inv⟩
  · obtain ⟨rs, hn, hd, hr⟩ := h.marks
    exact ⟨rs, hn, hd, fun r hm => ⟨(hr r hm).1, fun hin => (hr r hm).2.1 (mem_nones hin), (hr r hm).2.2⟩⟩
  · obtain ⟨k, hk, he⟩ := List.getElem_of_mem (mem_nones hb)
    exact (h.cur.rel.own k b (by simp [hk, he])).1

theorem Sta.cond {y : Yv} {Y : Ysem} {N : Nat} {g : Option Nat} {e : Env} {a : Act} {c : Operand} {b : Bool} (h : Sta w0 A0 β0 M ks N y Y g e H a w A β) (hc : a.eval c = .bool b) : Sta w0 A0 β0 M ks N y Y g (setB e (cOpd c) b) H a w A β := by
  refine ⟨h.cur, ?_, h.size, h.marks, h.nodef, h.inv⟩
  cases c with
  | tmp n =>
    have hc' : a.tmps.getD n undef = .bool b := hc
    intro t
    simp only [cOpd, setB, look]
    split
    · rename_i ht; subst ht; rw [hc']; exact .bool _ _
    · exact h.env t
  | _ => exact h.env

theorem stepR_scope {b : Frame} {a : Act} {k : List Item} {cs : List Frame} {w : World} {c : Code} : step P (lone (b.atR a (.code (.scope c) :: k)) cs w) = .next (lone (b.atR a (.code c :: .inScope c :: k)) cs w) :=
  step_lone_go (by simp [stepG, stepG.exec, Frame.atR])
theorem stepR_inScope {b : Frame} {a : Act} {k : List Item} {cs : List Frame} {w : World} {c : Code} : step P (lone (b.atR a (.inScope c :: k)) cs w) = .next (lone (b.atR a k) cs w) :=
  step_lone_go (by simp [stepG, stepG.exec, Frame.atR])

theorem wpIn_scope_straight {F : Fence} {m : Nat} {Q : Exit → Act → World → Prop} {a : Act} {w : World} {c : Code} (h : c.wpIn F m P (Exit.noGoto Q) a w) : (Code.scope c).wpIn F m P Q a w := by
  intro b k cs hro hb hr
  have h0 : (lone (b.atR a (.code (.scope c) :: k)) cs w).fenced P F := fenced_calm hb hr rfl
  obtain ⟨e, a₁, w₁, hq, harr⟩ := h b (.inScope c :: k) cs hro hb hr
  cases e with
  | normal => exact ⟨.normal, a₁, w₁, hq, .head h0 stepR_scope (StepsIn.trans harr (.one (fenced_calm hb hr rfl) stepR_inScope))⟩
  | exit id =>
    have hx : exitTo id (.inScope c :: k) = exitTo id k := by simp [exitTo]
    exact ⟨.exit id, a₁, w₁, hq, fun k' hk => .head h0 stepR_scope (harr.1 k' (by rw [hx]; exact hk)),
      fun hr' hk => let ⟨k₁, h1, h2⟩ := harr.2 hr' (by rw [hx]; exact hk); ⟨k₁, h1, .head h0 stepR_scope h2⟩⟩
  | goto l => exact hq.elim
  | ret => exact ⟨_, a₁, w₁, hq, .of_steps (.one h0 stepR_scope) harr⟩
  | panic ch => exact ⟨_, a₁, w₁, hq, .of_steps (.one h0 stepR_scope) harr⟩
  | outgrown => exact ⟨_, a₁, w₁, hq, .of_steps (.one h0 stepR_scope) harr⟩

/-- What is asked of the drawn regions by their text. -/
def lawsB (P : Program) (N : Nat) : Code → Bool
  | .region _ ops true => match ops.toList.mapM (cIns P ops N) with
    | some is => Region.lawB ops (headLen is) N
    | none => false
  | .seq a b => lawsB P N a && lawsB P N b
  | .cond _ a b => lawsB P N a && lawsB P N b
  | .block _ a => lawsB P N a
  | .loop a => lawsB P N a
  | .scope a => lawsB P N a
  | .rangeFunc _ _ a b => lawsB P N a && lawsB P N b
  | _ => true

/-- What is asked of a round's code. -/
abbrev Sound (P : Program) (N : Nat) (r : Option Nat) (m : Nat) (c : Code) (ir : IR) : Prop :=
  ∀ (w0 : World) (A0 : Nat → Prop) (β0 : List (Option Nat)) (M : Nat) (ks : List Nat) (y : Yv) (Y : Ysem), Yok P A0 y Y → (y.out = true → r = none) → ∀ (e : Env) (H : List Blk) (g : Option Nat) (K : Ex → Env → List Blk → Option Nat → Prop) (a : Act) (w : World) (A : Nat → Prop) (β : List (Option Nat)) (Q : Exit → Act → World → Prop),
    cvc P M ks y ir e H g K → Sta w0 A0 β0 M ks N y Y g e H a w A β → (∀ ex e' H' g' a' w' A' β', K ex e' H' g' → Sta w0 A0 β0 M ks N y Y g' e' H' a' w' A' β' → Q ex.to a' w') → c.wpIn (Fr r) m P Q a w

theorem killEs_append : ∀ (js ks : List Nat) (e : Env), killEs (js ++ ks) e = killEs ks (killEs js e)
  | [], _, _ => rfl
  | j :: js, ks, e => killEs_append js ks (killE j e)

def unname : List Nat → List (Option Nat) → List (Option Nat)
  | [], β => β
  | k :: ks, β => unname ks (β.set k none)

theorem unname_length : ∀ (sel : List Nat) (β : List (Option Nat)), (unname sel β).length = β.length
  | [], _ => rfl
  | k :: sel, β => by rw [unname, unname_length sel]; simp

theorem unname_get : ∀ (sel : List Nat) (β : List (Option Nat)) (j b : Nat), (unname sel β)[j]? = some (some b) ↔ j ∉ sel ∧ β[j]? = some (some b)
  | [], β, j, b => by simp [unname]
  | k :: sel, β, j, b => by
    rw [unname, unname_get sel]
    by_cases e : k = j
    · subst e
      constructor
      · rintro ⟨h1, h2⟩
        rw [List.getElem?_set] at h2
        split at h2
        · split at h2 <;> simp at h2
        · rename_i h; exact absurd rfl h
      · rintro ⟨h1, h2⟩; simp at h1
    · rw [List.getElem?_set_ne e]
      simp [Ne.symm e]

theorem unname_same : ∀ (sel : List Nat) (β : List (Option Nat)) (k : Nat), k ∉ sel → (unname sel β)[k]? = β[k]?
  | [], β, k, _ => rfl
  | j :: sel, β, k, h => by
    simp only [List.mem_cons, not_or] at h
    rw [unname, unname_same sel _ k h.2, List.getElem?_set_ne (Ne.symm h.1)]

theorem deadHs_length : ∀ (sel : List Nat) (H : List Blk), (deadHs sel H).length = H.length
  | [], _ => rfl
  | k :: sel, H => by rw [deadHs, deadHs_length sel]; simp [killH_length]

theorem WRel.unname1 (k : Nat) (h : WRel w A β H) : WRel w A (β.set k none) ((killH k H).set k .dead) := by
  have hg : ∀ (j b : Nat), (β.set k none)[j]? = some (some b) → j ≠ k ∧ β[j]? = some (some b) := fun j b hj => by
    have := (unname_get [k] β j b).1 hj
    exact ⟨by simpa using this.1, this.2⟩
  refine ⟨by simp [h.len, killH_length], fun i j b h1 h2 => h.inj i j b (hg i b h1).2 (hg j b h2).2, fun j b hj => h.own j b (hg j b hj).2, fun j o blk hj hb => ?_⟩
  cases o with
  | none => trivial
  | some b =>
    obtain ⟨hjk, hj'⟩ := hg j b hj
    rw [List.getElem?_set_ne (Ne.symm hjk), killH_get] at hb
    obtain ⟨blk', hb', rfl⟩ := Option.map_eq_some_iff.1 hb
    refine (h.blk j _ blk' hj' hb').killed (Stp.refl _ _) (fun _ _ h => h) k (fun i c hi hc => ?_) fun _ _ => rfl
    rw [List.getElem?_set_ne (Ne.symm hi)]; exact hc

theorem WRel.unname : ∀ (sel : List Nat) {β : List (Option Nat)} {H : List Blk}, WRel w A β H → WRel w A (unname sel β) (deadHs sel H)
  | [], _, _, h => h
  | k :: sel, _, _, h => WRel.unname sel (h.unname1 k)

/-- The blocks that an iterator has of its own. -/
def namesOf (sel : List Nat) (β : List (Option Nat)) : List (Option Nat) := sel.map fun k => (β[k]?).join

theorem namesOf_get {sel : List Nat} {j b : Nat} (h : (namesOf sel β)[j]? = some (some b)) : ∃ k, sel[j]? = some k ∧ β[k]? = some (some b) := by
  simp only [namesOf, List.getElem?_map, Option.map_eq_some_iff] at h
  obtain ⟨k, hk, h⟩ := h
  refine ⟨k, hk, ?_⟩
  cases hb : β[k]? with
  | none => simp [hb] at h
  | some o => simpa [hb] using h

theorem namesOf_put {sel : List Nat} {j k b : Nat} (hj : sel[j]? = some k) (hk : β[k]? = some (some b)) : (namesOf sel β)[j]? = some (some b) := by
  simp [namesOf, hj, hk]

theorem WRel.names {sel : List Nat} {Hc : List Blk} (h : WRel w A β H) (hc : sel.map (fun k => H[k]?) = Hc.map some) (hp : Hc.all okBlk = true) (hn : sel.Nodup) : WRel w A (namesOf sel β) Hc := by
  have hl : sel.length = Hc.length := by simpa using congrArg List.length hc
  refine ⟨by simp [namesOf, hl], fun i j b h1 h2 => ?_, fun j b hj => ?_, fun j o blk hj hb => ?_⟩
  · obtain ⟨k1, e1, f1⟩ := namesOf_get h1
    obtain ⟨k2, e2, f2⟩ := namesOf_get h2
    have := h.inj k1 k2 b f1 f2
    subst this
    have hi := (List.getElem?_eq_some_iff.1 e1).1
    exact (List.getElem?_inj hi hn).1 (e1.trans e2.symm)
  · obtain ⟨k, _, hk⟩ := namesOf_get hj
    exact h.own k b hk
  · cases o with
    | none => trivial
    | some b =>
      obtain ⟨k, e, hk⟩ := namesOf_get hj
      have hH : H[k]? = some blk := by
        have := congrArg (fun l => l[j]?) hc
        simp only [List.getElem?_map, e, hb, Option.map_some] at this
        simpa using this
      have h1 := h.blk k _ blk hk hH
      have hok := List.all_eq_true.1 hp blk (List.mem_of_getElem? hb)
      cases blk with
      | dead => trivial
      | vars cells =>
        obtain ⟨cs, T, h2, h3, h4⟩ := h1
        exact ⟨cs, T, h2, h3, fun j c v hc hv => (h4 j c v hc hv).purely (pureL_mem hok j c hc) _⟩
      | arr wd xs => exact h1

theorem reps_names {sel : List Nat} {caps : List SV} {vs : List Value} (hr : Reps w A β (caps.map (renV sel)) vs) (hok : caps.all (okCap sel.length) = true) : Reps w A (namesOf sel β) caps vs := by
  refine ⟨by simpa using hr.1, fun i f v hf hv => ?_⟩
  have h1 := hr.2 i (renV sel f) v (by simp [hf]) hv
  have h2 := List.all_eq_true.1 hok f (List.mem_of_getElem? hf)
  have sget : ∀ k, k < sel.length → sel[k]? = some (sel.getD k 0) := fun k hk => by simp [hk]
  cases f with
  | ptr k wd i j =>
    have hk : k < sel.length := by simpa [okCap] using h2
    simp only [renV] at h1
    cases h1
    rename_i b hb
    exact .ptr _ _ _ _ _ _ (namesOf_put (sget k hk) hb)
  | osl k wd i n =>
    have hk : k < sel.length := by simpa [okCap] using h2
    simp only [renV] at h1
    cases h1 with
    | oslZ => exact .oslZ _ _ _ _ _
    | osl _ _ _ _ _ b cap hb hc hs => exact .osl _ _ _ _ _ _ _ (namesOf_put (sget k hk) hb) hc hs
  | _ => exact h1.purely h2 _

/-- The record of a loop, or what else holds no cells, is turned. -/
theorem CurX.put {B0 : Nat → Prop} {l : Nat} {o o' : Obj} (h : CurX B0 w0 A0 β0 M ks w A β H) (hl : w.heap[l]? = some o) (ho : ∀ cs T fr, o ≠ .cells cs T fr) (h0 : w0.heap.size ≤ l) (hA : A l) (hn : some l ∉ β) : CurX B0 w0 A0 β0 M ks (w.putObj l o') A β H ∧ Stp A w (w.putObj l o') := by
  have hother : ∀ b, b ≠ l → (w.putObj l o').heap[b]? = w.heap[b]? := fun b hb => World.putObj_heap_other hb
  have hsz : (w.putObj l o').heap.size = w.heap.size := by simp [World.putObj]
  have hcell : ∀ (b : Nat) (cs : Array Value) (T : TypeId) (fr : Nat × Nat), w.heap[b]? = some (.cells cs T fr) → b ≠ l := fun b cs T fr h e => by rw [e, hl] at h; cases h; exact ho _ _ _ rfl
  have stp : Stp A w (w.putObj l o') := ⟨rfl, rfl, rfl, by rw [hsz]; exact Nat.le_refl _, fun b _ hb => hother b fun e => hb (e ▸ hA), fun b cs T fr h => ⟨cs, fr, by rw [hother b (hcell b cs T fr h)]; exact h, rfl⟩⟩
  have hname : ∀ (k b : Nat), β[k]? = some (some b) → b ≠ l := fun k b hk e => hn (e ▸ List.mem_of_getElem? hk)
  refine ⟨⟨⟨h.rel.len, h.rel.inj, fun k b hk => by rw [hsz]; exact h.rel.own k b hk, fun k o blk hk hbk => (h.rel.blk k o blk hk hbk).keep stp (fun _ _ h => h) (fun _ _ h => h) fun b e => hother b (hname k b (e ▸ hk))⟩, fun b hb => by rw [hsz]; exact h.fin b hb, ?_, h.agree, h.fresh, h.same, h.more, h.sub⟩, stp⟩
  refine ⟨h.frm.os, h.frm.tape, h.frm.output, by rw [hsz]; exact h.frm.size, fun b hb hn => ?_, fun b cs T fr h' => ?_⟩
  · rw [hother b (by omega)]; exact h.frm.keep b hb hn
  · obtain ⟨cs', fr', h1, h2⟩ := h.frm.shp b cs T fr h'
    exact ⟨cs', fr', by rw [hother b (hcell b _ _ _ h1)]; exact h1, h2⟩

theorem CurX.less {B0 : Nat → Prop} {M' : Nat} {ks' : List Nat} (h : CurX B0 w0 A0 β0 M ks w A β H) (hk : ∀ k, k < β0.length → (M ≤ k ∨ k ∈ ks) → (M' ≤ k ∨ k ∈ ks')) : CurX B0 w0 A0 β0 M' ks' w A β H :=
  ⟨h.rel, h.fin, h.frm, h.agree, h.fresh, fun k hk1 hn => h.same k hk1 fun h' => hn (hk k hk1 h'), h.more, h.sub⟩

/-- The parameters of a round. -/
theorem bind_env : ∀ (ps : List Nat) (xs : List SV) (us : List Value) (e : Env) (tmps : Array Value), EnvRel w A β e tmps → us.length = xs.length → (∀ (i : Nat) (f : SV) (v : Value), xs[i]? = some f → us[i]? = some v → Rep w A β f v) → (∀ p ∈ ps, p < tmps.size) → xs.length = ps.length →
    EnvRel w A β (bindE ps xs e) ((ps.zip us).foldl (fun t (p, v) => t.setIfInBounds p v) tmps)
  | [], [], [], e, tmps, h, _, _, _, _ => h
  | p :: ps, x :: xs, u :: us, e, tmps, h, hl, hr, hp, hx => by
    simp only [bindE, List.zip_cons_cons, List.foldl_cons]
    refine bind_env ps xs us _ _ ?_ (by simpa using hl) (fun i f v hf hv => hr (i + 1) f v (by simpa using hf) (by simpa using hv)) (fun q hq => by simpa using hp q (by simp [hq])) (by simpa using hx)
    have := EnvRel.put (a := { tmps := tmps, defers := [] }) (d := some p) h (fun t ht => by cases ht; exact hp p (by simp)) (hr 0 x u rfl rfl)
    simpa [setE, Act.put] using this
  | [], _ :: _, _, _, _, _, _, _, _, hx => by simp at hx
  | _ :: _, [], _, _, _, _, _, _, _, hx => by simp at hx
  | _ :: _, _ :: _, [], _, _, _, hl, _, _, _ => by simp at hl
  | [], [], _ :: _, _, _, _, hl, _, _, _ => by simp at hl

theorem foldl_size {ps : List Nat} {us : List Value} : ∀ (tmps : Array Value), ((ps.zip us).foldl (fun t (p, v) => t.setIfInBounds p v) tmps).size = tmps.size := by
  induction ps.zip us with
  | nil => intro tmps; rfl
  | cons x l ih => intro tmps; obtain ⟨p, v⟩ := x; simp [ih]

theorem noY_ok {β0 : List (Option Nat)} : Yok P A0 noY ⟨fun b => some b ∈ β0, fun _ _ _ _ => True⟩ :=
  ⟨fun _ _ _ _ _ _ _ _ _ _ _ _ => trivial, fun _ _ _ _ _ _ _ _ => trivial, fun _ h => absurd rfl h, fun i x us w A β hx => by simp [noY] at hx⟩

def codeOf : Ex → Code
  | .normal => .skip
  | .exit id => .exit id
  | .ret => .ret

/-- What the caller knows beside its own walk, while the iterator is at work. D: the block for deferred calls; behind it: the record. -/
structure RBase (w : World) (β : List (Option Nat)) (Bi A' : Nat → Prop) (W : World) (β' : List (Option Nat)) : Prop where
  dfr : W.heap[w.heap.size]? = some (.deferred (some []))
  aD : A' w.heap.size
  aL : A' (w.heap.size + 1)
  nD : some w.heap.size ∉ β'
  nL : some (w.heap.size + 1) ∉ β'
  bD : ¬ Bi w.heap.size
  bL : ¬ Bi (w.heap.size + 1)
  dis : ∀ b, Bi b → some b ∉ β'
  old : ∀ b, Bi b → b < w.heap.size → some b ∈ β
  own : ∀ b, Bi b → A' b

theorem zip_list (ps : Array Tmp) (us : List Value) (tmps : Array Value) : (ps.zip us.toArray).foldl (fun tmps (t, a) => tmps.setIfInBounds t a) tmps = (ps.toList.zip us).foldl (fun t (p, v) => t.setIfInBounds p v) tmps := by
  rw [← Array.foldl_toList, Array.toList_zip]

theorem CurX.stp {B0 : Nat → Prop} {A1 : Nat → Prop} (h : CurX B0 w0 A0 β0 M ks w A β H) (hB : ∀ b, B0 b → A1 b) : Stp A1 w0 w :=
  ⟨h.frm.os, h.frm.tape, h.frm.output, h.frm.size, fun b hb hn => h.frm.keep b hb fun h => hn (hB b h), h.frm.shp⟩

theorem mem_name {b : Nat} (h : some b ∈ β) : ∃ k : Nat, β[k]? = some (some b) := by
  obtain ⟨k, hk, he⟩ := List.getElem_of_mem h
  exact ⟨k, by simp [hk, he]⟩

theorem rng_sound {m N : Nat} {f : Operand} {ps : Array Tmp} {x y' : Code} {ix iy : IR} {y : Yv} {Y : Ysem} (hY : Yok P A0 y Y) (hps : ∀ t ∈ ps, t < N) (hx : ∀ {m l : Nat}, Sound P N (some l) m x ix) (hy : ∀ {m l : Nat}, Sound P N (some l) m y' iy)
    {e : Env} {g : Option Nat} {K : Ex → Env → List Blk → Option Nat → Prop} {a : Act} {Q : Exit → Act → World → Prop} (h : cvc P M ks y (.rng (cOpd f) ps.toList ix iy) e H g K) (hS : Sta w0 A0 β0 M ks N y Y g e H a w A β)
    (hQ : ∀ ex e' H' g' a' w' A' β', K ex e' H' g' → Sta w0 A0 β0 M ks N y Y g' e' H' a' w' A' β' → Q ex.to a' w') : (Code.rangeFunc f ps x y').wpIn (Fr none) m P Q a w := by
  simp only [cvc_rng_eq, RngP] at h
  split at h
  case h_2 => exact h.elim
  rename_i gf caps hfn
  obtain ⟨hout, sel, kl, caps', Hc, xs, SH, ok, hIT, hren, hok, hsel, hpure, hnd, hstale, hle, hok0, hround, hdone⟩ := h
  have hfe : ev e (cOpd f) = .fn gf caps := by
    unfold fnsOf at hfn; split at hfn
    · rename_i g' caps' he; cases hfn; exact he
    · cases hfn
  obtain ⟨vs, hav, hvs⟩ : ∃ vs : List Value, a.eval f = .func (.func gf) #[] vs.toArray ∧ Reps w A β caps vs := by
    have := ev_rep (w := w) (A := A) (β := β) (e := e) (a := a) f fun t _ => hS.env t
    rw [hfe] at this
    generalize a.eval f = v at this
    cases this
    rename_i vs hl hh
    exact ⟨vs, rfl, hl, hh⟩
  obtain ⟨e1, he1⟩ : ∃ e1, killEs kl (killEs sel e) = e1 := ⟨_, rfl⟩
  rw [he1] at hround hdone
  have hrelw := hS.cur.rel
  have hnA : ∀ b, some b ∈ β → A b := fun b hb => by obtain ⟨k, hk⟩ := mem_name hb; exact (hrelw.own k b hk).1
  have hnS : ∀ b, some b ∈ β → b < w.heap.size := fun b hb => by obtain ⟨k, hk⟩ := mem_name hb; exact (hrelw.own k b hk).2
  refine wpIn_rangeFunc fun fn _ => ?_
  obtain ⟨rec, hrec⟩ : ∃ rec : LoopState → Option Code → Loop, rec = fun st pe => { state := st, pending := pe, fn, tmps := a.tmps, params := ps, assign := x, body := y', defers := w.heap.size } := ⟨_, rfl⟩
  obtain ⟨w1, hw1⟩ : ∃ w1, (w.alloc (.deferred (some []))).alloc (.loop (rec .ready none)) = w1 := ⟨_, rfl⟩
  have hL1 : w1.heap[w.heap.size + 1]? = some (.loop (rec .ready none)) := by
    rw [← hw1]; have := World.alloc_heap_new (w.alloc (.deferred (some []))) (.loop (rec .ready none)); rwa [World.size_alloc] at this
  have hD1 : w1.heap[w.heap.size]? = some (.deferred (some [])) := by
    rw [← hw1]; exact (Below.heap_alloc _ _ _ (by simp)).trans (World.alloc_heap_new w _)
  have hb1 : Below w.heap.size w w1 := by
    rw [← hw1]; exact ((Below.refl _ w).alloc (Nat.le_refl _) _).alloc (by simp) _
  have hs1 : w1.heap.size = w.heap.size + 2 := by rw [← hw1]; simp
  obtain ⟨A1, hA1⟩ : ∃ A1 : Nat → Prop, A1 = fun b => A b ∨ b = w.heap.size ∨ b = w.heap.size + 1 := ⟨_, rfl⟩
  have hA1A : ∀ b, b < w.heap.size → A1 b → A b := fun b hb h => by
    rw [hA1] at h; rcases h with h | h | h <;> first | exact h | omega
  have hAA1 : ∀ b, A b → A1 b := fun b h => by rw [hA1]; exact .inl h
  have hfin1 : ∀ b, A1 b → b < w1.heap.size := fun b h => by
    rw [hA1] at h; rw [hs1]
    rcases h with h | h | h
    · have := hS.cur.fin b h; omega
    · omega
    · omega
  have hW1 : WRel w1 A1 β H := ⟨hrelw.len, hrelw.inj, fun k b hk => ⟨hAA1 b (hrelw.own k b hk).1, by have := (hrelw.own k b hk).2; omega⟩, fun k o blk hk hbk => (hrelw.blk k o blk hk hbk).keep (Stp.below hb1) hA1A (fun _ _ h => h) fun b he => hb1.block b (hnS b (he ▸ List.mem_of_getElem? hk))⟩
  have hcur1 : CurX (fun b => some b ∈ β) w A β H.length (sel ++ kl) w1 A1 (unname sel β) (deadHs sel H) :=
    ⟨hW1.unname sel, hfin1, (Frm.below hb1).b, fun b hb => ⟨hA1A b hb, hAA1 b⟩, fun k b hk _ => List.mem_of_getElem? ((unname_get sel β k b).1 hk).2, fun k _ hn => unname_same sel β k fun h => hn (.inr (by simp [h])), by rw [unname_length]; exact Nat.le_refl _, fun _ h => h⟩
  -- what the slots are known as, in whatever round
  have henv : ∀ {W : World} {A' : Nat → Prop} {β' : List (Option Nat)} {HH : List Blk}, CurX (fun b => some b ∈ β) w A β H.length (sel ++ kl) W A' β' HH → EnvRel W A' β' e1 a.tmps := fun {W A' β' HH} hc => by
    rw [← he1, ← killEs_append]
    refine EnvRel.kills (hc.stp hnA) (fun b hb h => (hc.agree b hb).1 h) (sel ++ kl) e hS.env fun j b hj hk => ?_
    have hjl := (List.getElem?_eq_some_iff.1 hk).1
    rw [hc.same j hjl fun h => by
      rcases h with h | h
      · have := hrelw.len; omega
      · exact hj h]; exact hk
  obtain ⟨J, hJ⟩ : ∃ J : Option Nat → (Nat → Prop) → (Nat → Prop) → World → Prop, J = fun g' Bi A' W => ∃ (β' : List (Option Nat)) (HH : List Blk) (st : LoopState) (pe : Option Code), CurX (fun b => some b ∈ β) w A β H.length (sel ++ kl) W A' β' HH ∧ RBase w β Bi A' W β' ∧ W.heap[w.heap.size + 1]? = some (.loop (rec st pe)) ∧
      (match g' with | some i => ok i ∧ HH = SH i ∧ st = .ready ∧ pe = none | none => ∃ ex, ex ≠ Ex.normal ∧ st = .done ∧ pe = some (codeOf ex) ∧ K ex e1 HH g) := ⟨_, rfl⟩
  have hcalls := hIT.2 (w.heap.size + 1) w1 A1 (namesOf sel β) vs J hfin1 (hW1.names hsel hpure hnd) (reps_names (hren ▸ ⟨hvs.1, fun i f v h1 h2 => (hvs.2 i f v h1 h2).mono (Stp.below hb1) hA1A⟩) hok) ?start ?stab ?yield
  case start =>
    rw [hJ]
    have hle' : leH (deadHs sel H).length (deadHs sel H) (SH 0) := by rw [deadHs_length]; exact hle
    have hnn : ∀ b, some b ∈ unname sel β ++ List.replicate ((SH 0).length - (deadHs sel H).length) none → some b ∈ β := fun b hb => by
      obtain ⟨k, hk⟩ := mem_name (mem_nones hb)
      exact List.mem_of_getElem? ((unname_get sel β k b).1 hk).2
    have hit : ∀ b, some b ∈ namesOf sel β → some b ∈ β := fun b hb => by
      obtain ⟨j, hj⟩ := mem_name hb
      obtain ⟨k, _, hk⟩ := namesOf_get hj
      exact List.mem_of_getElem? hk
    refine ⟨_, SH 0, .ready, none, hcur1.weaken hle', ⟨hD1, by rw [hA1]; exact .inr (.inl rfl), by rw [hA1]; exact .inr (.inr rfl), fun h => by have := hnS _ (hnn _ h); omega, fun h => by have := hnS _ (hnn _ h); omega, fun h => by have := hnS _ (hit _ h); omega, fun h => by have := hnS _ (hit _ h); omega, fun b hb hn => ?_, fun b hb _ => hit b hb, fun b hb => hAA1 b (hnA b (hit b hb))⟩, hL1, hok0, rfl, rfl, rfl⟩
    obtain ⟨j, hj⟩ := mem_name hb
    obtain ⟨k, hsk, hk⟩ := namesOf_get hj
    obtain ⟨k', hk'⟩ := mem_name (mem_nones hn)
    obtain ⟨h1, h2⟩ := (unname_get sel β k' b).1 hk'
    exact h1 (hrelw.inj k k' b hk h2 ▸ List.mem_of_getElem? hsk)
  case stab =>
    intro g' Bi A' W Bi2 A2 W2 hj hit
    rw [hJ] at hj ⊢
    obtain ⟨β', HH, st, pe, hc, hb, hl, hm⟩ := hj
    have hltL := heap_lt hl
    have hltD := heap_lt hb.dfr
    have stp : Stp A' W W2 := ⟨hit.os, hit.tape, hit.output, hit.size, fun b hb' hn => hit.keep b hb' fun h => hn (hb.own b h), hit.shp⟩
    have hnot : ∀ b, b < W.heap.size → ¬ Bi b → ¬ Bi2 b := fun b hb' hn h => by
      rcases hit.sub b h with h | h
      · exact hn h
      · omega
    refine ⟨β', HH, st, pe, ⟨⟨hc.rel.len, hc.rel.inj, fun k b hk => ?_, fun k o blk hk hbk => (hc.rel.blk k o blk hk hbk).keep stp (fun b hb h => (hit.agree b hb).1 h) (fun _ _ h => h) fun b he => hit.keep b (hc.rel.own k b (he ▸ hk)).2 fun h => hb.dis b h (he ▸ List.mem_of_getElem? hk)⟩, hit.fin, hc.frm.step (C := Bi) ⟨hit.os, hit.tape, hit.output, hit.size, hit.keep, hit.shp⟩ fun b hb' h => hb.old b h hb', fun b hb' => (hit.agree b (Nat.lt_of_lt_of_le hb' hc.frm.size)).trans (hc.agree b hb'), hc.fresh, hc.same, hc.more, hc.sub⟩,
      ⟨(hit.keep _ hltD hb.bD).trans hb.dfr, (hit.agree _ hltD).2 hb.aD, (hit.agree _ hltL).2 hb.aL, hb.nD, hb.nL, hnot _ hltD hb.bD, hnot _ hltL hb.bL, fun b h hn => ?_, fun b h hw => ?_, hit.own⟩, (hit.keep _ hltL hb.bL).trans hl, hm⟩
    · obtain ⟨h1, h2⟩ := hc.rel.own k b hk
      exact ⟨(hit.agree b h2).2 h1, Nat.lt_of_lt_of_le h2 hit.size⟩
    · rcases hit.sub b h with h | h
      · exact hb.dis b h hn
      · obtain ⟨k, hk⟩ := mem_name hn
        have := (hc.rel.own k b hk).2; omega
    · rcases hit.sub b h with h | h
      · exact hb.old b h hw
      · have := hc.frm.size; omega
  case yield =>
    intro i xv us Bi A' W hxi hj hfinA hBA hrx
    rw [hJ] at hj
    obtain ⟨β', HH, st, pe, hc, hb, hl, hoki, hHH, hst, hpe⟩ := hj
    subst hHH hst hpe
    obtain ⟨hxl, hrd⟩ := hround i xv hxi hoki
    have hltL := heap_lt hl
    have hltD := heap_lt hb.dfr
    have hul : us.toArray.size = (rec .ready none).params.size := by rw [hrec]; simp [hrx.1, hxl]
    have hyr := run_yield (P := P) (args := us.toArray) hl hul
    rw [hrec] at hyr
    refine ⟨fn, _, x, y', hyr, roundIn_of_wpIn trivial ?_⟩
    simp only [zip_list]
    have hβA : ∀ b, some b ∈ β' → A' b := fun b hb => by obtain ⟨k, hk⟩ := mem_name hb; exact (hc.rel.own k b hk).1
    refine hx (m := 0) (l := w.heap.size + 1) W A' β' H.length kl noY ⟨fun b => some b ∈ β', fun _ _ _ _ => True⟩ noY_ok (by simp [noY]) _ _ none _ _ W A' β' _ hrd
      ⟨(Cur.start hc.rel hc.fin).x, bind_env ps.toList xv us e1 a.tmps (henv hc) hrx.1 (fun j f v h1 h2 => (hrx.2 j f v h1 h2).more _ fun k b h => by simp at h) (fun p hp => by rw [hS.size]; exact hps p (by simpa using hp)) hxl, by rw [foldl_size]; exact hS.size, ⟨[], List.nodup_nil, rfl, fun r h => by simp at h⟩, fun _ => rfl, trivial⟩ fun ex e' H' g' a1 W1 A2 β1 hk hs => ?_
    cases ex with
    | exit id => exact hk.elim
    | ret => exact hk.elim
    | normal =>
      have toCl : ∀ {W2 : World} {A3 : Nat → Prop} {β2 : List (Option Nat)} {H2 : List Blk} {Wa : World} {Aa : Nat → Prop} {βa : List (Option Nat)} {Ha : List Blk}, CurX (fun b => some b ∈ β) w A β H.length (sel ++ kl) Wa Aa βa Ha → CurX (fun b => some b ∈ βa) Wa Aa βa H.length kl W2 A3 β2 H2 → CurX (fun b => some b ∈ β) w A β H.length (sel ++ kl) W2 A3 β2 H2 :=
        fun h1 h2 => h1.trans (h2.less fun k _ h => h.imp id fun h => by simp [h]).cur
      have hl1 : W1.heap[w.heap.size + 1]? = some (.loop (rec .ready none)) := (hs.cur.frm.keep _ hltL hb.nL).trans hl
      have hnL1 : some (w.heap.size + 1) ∉ β1 := fun h => by
        obtain ⟨k, hk'⟩ := mem_name h
        exact hb.nL (hs.cur.fresh k _ hk' hltL)
      have haL1 : A2 (w.heap.size + 1) := (hs.cur.agree _ hltL).2 hb.aL
      have c1 := toCl hc hs.cur
      refine ⟨_, run_beginRound hl1 (by rw [hrec]), ?_⟩
      obtain ⟨c2, stp2⟩ := c1.put (o' := .loop { rec .ready none with state := .busy }) hl1 (fun _ _ _ h => by cases h) (by omega) haL1 hnL1
      have hdef1 := hs.nodef rfl
      refine hy (m := 0) (l := w.heap.size + 1) _ A2 β1 H.length kl noY ⟨fun b => some b ∈ β1, fun _ _ _ _ => True⟩ noY_ok (by simp [noY]) _ _ none _ _ _ A2 β1 _ hk
        ⟨(Cur.start c2.rel c2.fin).x, fun t => (hs.env t).mono stp2 fun _ _ h => h, hs.size, by rw [hdef1]; exact ⟨[], List.nodup_nil, rfl, fun r h => by simp at h⟩, fun _ => hdef1, trivial⟩ fun ex e'' H'' g'' a3 W3 A3 β3 hk3 hs3 => ?_
      have c3 := toCl c2 hs3.cur
      have hsz1 := hs.cur.frm.size
      have hsz2 : (W1.putObj (w.heap.size + 1) (.loop { rec .ready none with state := .busy })).heap.size = W1.heap.size := by simp
      have hl2 : (W1.putObj (w.heap.size + 1) (.loop { rec .ready none with state := .busy })).heap[w.heap.size + 1]? = some (.loop { rec .ready none with state := .busy }) := World.putObj_heap_same (by omega)
      have hl3 : W3.heap[w.heap.size + 1]? = some (.loop { rec .ready none with state := .busy }) := (hs3.cur.frm.keep _ (by omega) hnL1).trans hl2
      have hnL3 : some (w.heap.size + 1) ∉ β3 := fun h => by
        obtain ⟨k, hk'⟩ := mem_name h
        exact hnL1 (hs3.cur.fresh k _ hk' (by omega))
      have haL3 : A3 (w.heap.size + 1) := (hs3.cur.agree _ (by omega)).2 haL1
      -- a block that is not the walk's lies as it lay
      have out1 : ∀ b, b < W.heap.size → some b ∉ β' → some b ∉ β1 := fun b hb' hn h => by
        obtain ⟨k, hk'⟩ := mem_name h
        exact hn (hs.cur.fresh k _ hk' hb')
      have out3 : ∀ b, b < W.heap.size → some b ∉ β' → some b ∉ β3 := fun b hb' hn h => by
        obtain ⟨k, hk'⟩ := mem_name h
        exact out1 b hb' hn (hs3.cur.fresh k _ hk' (by omega))
      have stay : ∀ (o' : Obj) (b : Nat), b < W.heap.size → some b ∉ β' → b ≠ w.heap.size + 1 → (W3.putObj (w.heap.size + 1) o').heap[b]? = W.heap[b]? := fun o' b hb' hn hne => by
        rw [World.putObj_heap_other hne, hs3.cur.frm.keep b (by omega) (out1 b hb' hn), World.putObj_heap_other hne, hs.cur.frm.keep b hb' hn]
      have fin : ∀ (jump : Option Code) (HX : List Blk) (gX : Option Nat) (βX : List (Option Nat)), (∀ b, some b ∈ βX → some b ∈ β3) → (CurX (fun b => some b ∈ β) w A β H.length (sel ++ kl) W3 A3 βX HX) → gX = (if jump.isNone then some (i + 1) else none) →
          (match gX with | some i => ok i ∧ HX = SH i ∧ (if jump.isNone then LoopState.ready else .done) = .ready ∧ jump = none | none => ∃ ex, ex ≠ Ex.normal ∧ (if jump.isNone then LoopState.ready else .done) = .done ∧ jump = some (codeOf ex) ∧ K ex e1 HX g) →
          ∃ v w', (Instr.endRound (w.heap.size + 1) jump).run P W3 = .ok v w' ∧ ∃ (b : Bool) (Ab : Nat → Prop), Ending.returned v = .returned (.bool b) ∧ J (if b then some (i + 1) else none) Bi Ab w' ∧ RoundStep Bi A' W Ab w' := by
        intro jump HX gX βX hsub hcX hg hm
        have haA : ∀ b, b < W.heap.size → (A3 b ↔ A' b) := fun b hb' => (hs3.cur.agree b (by omega)).trans (hs.cur.agree b hb')
        obtain ⟨c4, stp4⟩ := hcX.put (o' := .loop { { rec .ready none with state := .busy } with state := if jump.isNone then .ready else .done, pending := jump }) hl3 (fun _ _ _ h => by cases h) (by omega) haL3 (fun h => hnL3 (hsub _ h))
        refine ⟨_, _, run_endRound jump hl3, jump.isNone, A3, rfl, ?_, ⟨?_, fun b h => stay _ b (hfinA b (hBA b h)) (hb.dis b h) (fun e => hb.bL (e ▸ h)), haA, c4.fin⟩⟩
        · rw [hJ, ← hg]
          refine ⟨βX, HX, _, jump, c4, ⟨(stay _ _ hltD hb.nD (by omega)).trans hb.dfr, (haA _ hltD).2 hb.aD, haL3, fun h => out3 _ hltD hb.nD (hsub _ h), fun h => hnL3 (hsub _ h), hb.bD, hb.bL, fun b h hn => out3 b (hfinA b (hBA b h)) (hb.dis b h) (hsub b hn), hb.old, fun b h => (haA b (hfinA b (hBA b h))).2 (hBA b h)⟩, ?_, hm⟩
          rw [World.putObj_heap_same (heap_lt hl3), hrec]
        · have s1 : Stp A' W W1 := hs.cur.stp hβA
          have s2 := s1.trans stp2 fun b hb' h => (hs.cur.agree b hb').1 h
          have s3 : Stp A2 _ W3 := hs3.cur.stp fun b hb' => by obtain ⟨k, hk'⟩ := mem_name hb'; exact (hs.cur.rel.own k b hk').1
          exact (s2.trans s3 fun b hb' h => (hs.cur.agree b hb').1 h).trans stp4 fun b hb' h => (haA b hb').1 h
      cases ex with
      | normal => exact fin none (SH (i + 1)) (some (i + 1)) _ (fun b => mem_nones) (c3.weaken hk3.2) rfl ⟨hk3.1, rfl, rfl, rfl⟩
      | exit id => exact fin (some (.exit id)) H'' none β3 (fun _ h => h) c3 rfl ⟨.exit id, (fun h => nomatch h), rfl, rfl, hk3⟩
      | ret => exact fin (some .ret) H'' none β3 (fun _ h => h) c3 rfl ⟨.ret, (fun h => nomatch h), rfl, rfl, hk3⟩
  refine ⟨w.heap.size + 1, [{ target := .collected w.heap.size, args := #[] }], w1, { target := .fn (.func gf) vs.toArray, args := #[.func (.yield (w.heap.size + 1)) #[] #[]] }, w1, gf, (.func (.yield (w.heap.size + 1)) #[] #[] :: vs).toArray, w1, ?_, ?_, fun _ _ => trivial, ?_, fun h => by simp [Fence.wide] at h, ?_⟩
  · rw [← hw1, hrec]; exact run_enterLoop_outer _ _ _ _ _
  · simp only [resolve, hav]
    simp [go_sem]
  · simp [invoke, go_sem, hIT.1]
  · refine callsIn_wide.2 (hcalls.mono ?_)
    rintro e' w' ⟨v, g', Bi, A', rfl, hg', hj⟩
    rw [hJ] at hj
    obtain ⟨β', HH, st, pe, hc, hb, hl, hm⟩ := hj
    have hltL := heap_lt hl
    have hst : (rec st pe).state ≠ .busy := by
      rw [hrec]
      cases g' with
      | some i => rw [hm.2.2.1]; exact fun h => nomatch h
      | none => obtain ⟨_, _, h, _⟩ := hm; rw [h]; exact fun h => nomatch h
    obtain ⟨c5, stp5⟩ := hc.put (o' := .loop { rec st pe with state := .exhausted }) hl (fun _ _ _ h => by cases h) (by omega) hb.aL hb.nL
    have cur5 : Cur w A β M ks (w'.putObj (w.heap.size + 1) (.loop { rec st pe with state := .exhausted })) A' β' HH := (c5.less fun k hk h => by
      rcases h with h | h
      · have := hrelw.len; omega
      · exact hstale k (by simpa using h)).cur
    have hsta : Sta w0 A0 β0 M ks N y Y g e1 HH { a with defers := [{ target := .collected w.heap.size, args := #[] }] ++ a.defers } (w'.putObj (w.heap.size + 1) (.loop { rec st pe with state := .exhausted })) A' β' := by
      refine ⟨hS.cur.trans cur5, henv c5, hS.size, ?_, (fun h => by rw [hout] at h; cases h), hY.stab _ _ _ _ _ _ _ _ _ _ hS.inv cur5⟩
      obtain ⟨rs, hn, hd, hr⟩ := hS.marks.step cur5
      obtain ⟨rs', hn', hd', hr'⟩ := hS.marks
      have hrs : rs = rs' := by
        have := hd.symm.trans hd'
        exact List.map_inj_right (fun x y h => by simpa using h) |>.1 this
      subst hrs
      refine ⟨w.heap.size :: rs, List.nodup_cons.2 ⟨fun h => by have := heap_lt (hr' _ h).1; omega, hn⟩, by simp [hd], fun q hq => ?_⟩
      rcases List.mem_cons.1 hq with h | h
      · subst h
        exact ⟨by rw [World.putObj_heap_other (by omega)]; exact hb.dfr, hb.nD, hb.aD, hS.cur.frm.size⟩
      · exact hr q h
    refine ⟨(rec st pe).pending, (w'.putObj (w.heap.size + 1) (.loop { rec st pe with state := .exhausted })), run_endLoop hl hst, ?_⟩
    have hp : (rec st pe).pending = pe := by rw [hrec]
    generalize (w'.putObj (w.heap.size + 1) (.loop { rec st pe with state := .exhausted })) = w4 at hsta ⊢
    rw [hp]
    rcases hg' with rfl | rfl
    · obtain ⟨hokn, rfl, _, rfl⟩ := hm
      exact hQ .normal _ _ _ _ _ _ _ (hdone hokn) hsta
    · obtain ⟨ex, hex, _, rfl, hK⟩ := hm
      cases ex with
      | normal => exact absurd rfl hex
      | exit id => exact wpIn_exit (hQ (.exit id) _ _ _ _ _ _ _ hK hsta)
      | ret => exact wpIn_ret (hQ .ret _ _ _ _ _ _ _ hK hsta)

/-- **CODE.** -/
theorem cvc_sound (hm : P.follows .mixedOrders = true) {m N : Nat} {r : Option Nat} : ∀ (c : Code) (ir : IR), comp P N c = some ir → lawsB P N c = true → ∀ (w0 : World) (A0 : Nat → Prop) (β0 : List (Option Nat)) (M : Nat) (ks : List Nat) (y : Yv) (Y : Ysem), Yok P A0 y Y → (y.out = true → r = none) → ∀ (e : Env) (H : List Blk) (g : Option Nat) (K : Ex → Env → List Blk → Option Nat → Prop) (a : Act) (w : World) (A : Nat → Prop) (β : List (Option Nat)) (Q : Exit → Act → World → Prop),
    cvc P M ks y ir e H g K → Sta w0 A0 β0 M ks N y Y g e H a w A β → (∀ ex e' H' g' a' w' A' β', K ex e' H' g' → Sta w0 A0 β0 M ks N y Y g' e' H' a' w' A' β' → Q ex.to a' w') → c.wpIn (Fr r) m P Q a w := by
  intro c
  induction c generalizing m r with
  | skip => intro ir hc hl w0 A0 β0 M ks y Y hY hr e H g K a w A β Q h hS hQ; simp [comp] at hc; subst hc; exact wpIn_skip (hQ .normal _ _ _ _ _ _ _ h hS)
  | label l => intro ir hc hl w0 A0 β0 M ks y Y hY hr e H g K a w A β Q h hS hQ; simp [comp] at hc; subst hc; exact wpIn_label (hQ .normal _ _ _ _ _ _ _ h hS)
  | region id ops d =>
    intro ir hc hl w0 A0 β0 M ks y Y hY hr e H g K a w A β Q h hS hQ
    cases d with
    | false =>
      simp only [comp] at hc
      obtain ⟨is, his, rfl⟩ := Option.map_eq_some_iff.1 hc
      have := wpOps_of_list (F := Fr r) (m := m) (P := P) (ops := ops) ops.toList 0 a w (fun j _ => by simp) (rvc_sound hY ops.toList is his _ _ _ _ _ _ _ _ h hS fun e' H' g' a' w' A' β' hk hs => hQ .normal _ _ _ _ _ _ _ hk hs)
      refine wpIn_region ?_
      rw [List.range_eq_range']
      simpa using this
    | true =>
      simp only [comp] at hc
      obtain ⟨is, his, rfl⟩ := Option.map_eq_some_iff.1 hc
      simp only [lawsB, his] at hl
      have := draw_sound (r := r) (id := id) (m := m) (l := ops.toList) (Q := Q) hm hY (by simpa using his) (by simpa using hl) h hS fun e' H' g' a' w' A' β' hk hs => hQ .normal _ _ _ _ _ _ _ hk hs
      simpa using this
  | seq x y' ihx ihy =>
    intro ir hc hl w0 A0 β0 M ks y Y hY hr e H g K a w A β Q h hS hQ
    simp only [comp] at hc
    split at hc
    · rename_i ix iy hx hy
      cases hc
      simp only [lawsB, Bool.and_eq_true] at hl
      refine wpIn_seq (ihx ix hx hl.1 _ _ _ _ _ _ _ hY hr _ _ _ _ _ _ _ _ _ h hS fun ex e' H' g' a' w' A' β' hk hs => ?_)
      cases ex with
      | normal => exact ihy iy hy hl.2 _ _ _ _ _ _ _ hY hr _ _ _ _ _ _ _ _ _ hk hs hQ
      | exit id => exact hQ (.exit id) _ _ _ _ _ _ _ hk hs
      | ret => exact hQ .ret _ _ _ _ _ _ _ hk hs
    · cases hc
  | cond c x y' ihx ihy =>
    intro ir hc hl w0 A0 β0 M ks y Y hY hr e H g K a w A β Q h hS hQ
    simp only [comp] at hc
    split at hc
    · rename_i ix iy hx hy
      cases hc
      simp only [lawsB, Bool.and_eq_true] at hl
      simp only [cvc_cond_eq] at h
      split at h
      · rename_i t ht
        have hv : a.eval c = .bool t := rep_bool (ht ▸ ev_rep c fun t' _ => hS.env t')
        refine wpIn_cond_split hv (fun e => ?_) (fun e => ?_)
        · subst e; exact ihx ix hx hl.1 _ _ _ _ _ _ _ hY hr _ _ _ _ _ _ _ _ _ (h.t rfl) (hS.cond hv) hQ
        · subst e; exact ihy iy hy hl.2 _ _ _ _ _ _ _ hY hr _ _ _ _ _ _ _ _ _ (h.f rfl) (hS.cond hv) hQ
      · rename_i ht
        have hrep : Rep w A β .anyb (a.eval c) := ht ▸ ev_rep c fun t' _ => hS.env t'
        generalize hv : a.eval c = v at hrep
        cases hrep
        rename_i t
        refine wpIn_cond_split hv (fun e => ?_) (fun e => ?_)
        · subst e; exact ihx ix hx hl.1 _ _ _ _ _ _ _ hY hr _ _ _ _ _ _ _ _ _ h.1 (hS.cond hv) hQ
        · subst e; exact ihy iy hy hl.2 _ _ _ _ _ _ _ hY hr _ _ _ _ _ _ _ _ _ h.2 (hS.cond hv) hQ
      · exact h.elim
    · cases hc
  | block id x ih =>
    intro ir hc hl w0 A0 β0 M ks y Y hY hr e H g K a w A β Q h hS hQ
    simp only [comp] at hc
    obtain ⟨ix, hx, rfl⟩ := Option.map_eq_some_iff.1 hc
    refine wpIn_block (ih ix hx hl _ _ _ _ _ _ _ hY hr _ _ _ _ _ _ _ _ _ h hS fun ex e' H' g' a' w' A' β' hk hs => ?_)
    cases ex with
    | normal => exact hQ .normal _ _ _ _ _ _ _ hk hs
    | exit i =>
      simp only [Ex.to, Exit.inBlock]
      simp only at hk
      split
      · rename_i hi; rw [if_pos hi] at hk; exact hQ .normal _ _ _ _ _ _ _ hk hs
      · rename_i hi; rw [if_neg hi] at hk; exact hQ (.exit i) _ _ _ _ _ _ _ hk hs
    | ret => exact hQ .ret _ _ _ _ _ _ _ hk hs
  | loop x ih =>
    intro ir hc hl w0 A0 β0 M ks y Y hY hr e H g K a w A β Q h hS hQ
    simp only [comp] at hc
    obtain ⟨ix, hx, rfl⟩ := Option.map_eq_some_iff.1 hc
    obtain ⟨α, ok, S, SH, Sg, μ, ⟨x0, hx0, hE0, hH0, rfl⟩, hround⟩ := h
    refine wpIn_loop_ghost (fun n a w => ∃ (x : α) (A : Nat → Prop) (β : List (Option Nat)), ok x ∧ μ x = n ∧ Sta w0 A0 β0 M ks N y Y (Sg x) (S x) (SH x) a w A β) (μ x0) ⟨x0, A, _, hx0, rfl, hS.weaken hY hE0 hH0⟩ fun n a1 w1 ⟨x1, A1, β1, hok, hμ, hst⟩ => ?_
    refine ih ix hx hl _ _ _ _ _ _ _ hY hr _ _ _ _ _ _ _ _ _ (hround x1 hok) hst fun ex e' H' g' a' w' A' β' hk hs => ?_
    cases ex with
    | normal =>
      obtain ⟨y', hy, hlt, hE, hH, hg⟩ := hk
      exact ⟨μ y', by omega, y', A', _, hy, rfl, hg ▸ hs.weaken hY hE hH⟩
    | exit id => exact hQ (.exit id) _ _ _ _ _ _ _ hk hs
    | ret => exact hQ .ret _ _ _ _ _ _ _ hk hs
  | exit id => intro ir hc hl w0 A0 β0 M ks y Y hY hr e H g K a w A β Q h hS hQ; simp [comp] at hc; subst hc; exact wpIn_exit (hQ (.exit id) _ _ _ _ _ _ _ h hS)
  | ret => intro ir hc hl w0 A0 β0 M ks y Y hY hr e H g K a w A β Q h hS hQ; simp [comp] at hc; subst hc; exact wpIn_ret (hQ .ret _ _ _ _ _ _ _ h hS)
  | rangeFunc f ps x y' ihx ihy =>
    intro ir hc hl w0 A0 β0 M ks y Y hY hr e H g K a w A β Q h hS hQ
    simp only [comp] at hc
    split at hc
    · rename_i ix iy hx hy
      split at hc
      · rename_i hps
        cases hc
        simp only [lawsB, Bool.and_eq_true] at hl
        have hrn : r = none := by
          simp only [cvc_rng_eq, RngP] at h
          split at h
          · exact hr h.1
          · exact h.elim
        subst hrn
        exact rng_sound hY (fun t ht => by simpa using Array.all_eq_true'.1 hps t ht) (fun {m l} => ihx (m := m) (r := some l) ix hx hl.1) (fun {m l} => ihy (m := m) (r := some l) iy hy hl.2) h hS hQ
      · cases hc
    · cases hc
  | scope x ih =>
    intro ir hc hl w0 A0 β0 M ks y Y hY hr e H g K a w A β Q h hS hQ
    exact wpIn_scope_straight (ih ir hc hl _ _ _ _ _ _ _ hY hr _ _ _ _ _ _ _ _ _ h hS fun ex e' H' g' a' w' A' β' hk hs => by
      have := hQ ex e' H' g' a' w' A' β' hk hs
      cases ex <;> exact this)
  | goto l => intro ir hc; simp [comp] at hc
  | refuse s => intro ir hc; simp [comp] at hc

end
end Go.Proofs.Ytefciekodhpefaa
