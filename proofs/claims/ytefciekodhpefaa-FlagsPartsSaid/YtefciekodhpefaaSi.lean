/- Operations that make blocks or write into one's own: what is to be shown of them; the walk's state. -/
import Derived.Test.YtefciekodhpefaaSh
import Derived.Laws.CopyRow
import Derived.Laws.MakeOwn
import Derived.Laws.AppendOwn
import Derived.Laws.Append
namespace Go.Proofs.Ytefciekodhpefaa
open Go.RowKit

/-! ### Moved names -/

def SV.shift (m : Nat) : SV → SV
  | .ptr k wd i j => .ptr (m + k) wd i j
  | .osl k wd i n => .osl (m + k) wd i n
  | .agg fs => .agg (shiftL fs)
  | .tup fs => .tup (shiftL fs)
  | .fn f fs => .fn f (shiftL fs)
  | x => x
where shiftL : List SV → List SV
  | [] => []
  | f :: fs => f.shift m :: shiftL fs

theorem shiftL_get (k : Nat) : ∀ (fs : List SV) (i : Nat), (SV.shift.shiftL k fs)[i]? = (fs[i]?).map (SV.shift k)
  | [], i => by simp [SV.shift.shiftL]
  | f :: fs, 0 => by simp [SV.shift.shiftL]
  | f :: fs, i + 1 => by simp [SV.shift.shiftL, shiftL_get k fs i]
theorem shiftL_length (k : Nat) : ∀ fs : List SV, (SV.shift.shiftL k fs).length = fs.length
  | [] => rfl
  | f :: fs => by simp [SV.shift.shiftL, shiftL_length k fs]

theorem Rep.shift {w : World} {A : Nat → Prop} {γ : List (Option Nat)} {x : SV} {v : Value} (h : Rep w A γ x v) : ∀ β : List (Option Nat), Rep w A (β ++ γ) (x.shift β.length) v := by
  have hg : ∀ (β γ : List (Option Nat)) (k b : Nat), γ[k]? = some (some b) → (β ++ γ)[β.length + k]? = some (some b) := fun β γ k b h => by
    rw [List.getElem?_append_right (by omega), Nat.add_sub_cancel_left]; exact h
  induction h with
  | any β v => exact fun _ => .any _ _
  | int => exact fun _ => .int _ _ _
  | bool => exact fun _ => .bool _ _
  | str => exact fun _ => .str _ _
  | raw => exact fun _ => .raw _ _
  | anyb => exact fun _ => .anyb _ _
  | agg γ fs vs hl _ ih =>
    intro β
    refine .agg _ _ _ (by rw [shiftL_length]; exact hl) fun i f v h1 h2 => ?_
    rw [shiftL_get] at h1
    obtain ⟨f', hf', rfl⟩ := Option.map_eq_some_iff.1 h1
    exact ih i f' v hf' h2 β
  | tup γ fs vs hl _ ih =>
    intro β
    refine .tup _ _ _ (by rw [shiftL_length]; exact hl) fun i f v h1 h2 => ?_
    rw [shiftL_get] at h1
    obtain ⟨f', hf', rfl⟩ := Option.map_eq_some_iff.1 h1
    exact ih i f' v hf' h2 β
  | fn γ f fs vs hl _ ih =>
    intro β
    refine .fn _ _ _ _ (by rw [shiftL_length]; exact hl) fun i f v h1 h2 => ?_
    rw [shiftL_get] at h1
    obtain ⟨f', hf', rfl⟩ := Option.map_eq_some_iff.1 h1
    exact ih i f' v hf' h2 β
  | nils => exact fun _ => .nils _ _
  | slcZ => exact fun _ => .slcZ _ _ _
  | slc γ wd xs b off cap vs hm hc h _ => exact fun _ => .slc _ _ _ _ _ _ vs hm hc h
  | box γ cells j0 b off vs hm h _ => exact fun _ => .box _ _ _ _ _ vs hm h
  | ptr γ k wd i j b hk => exact fun β => .ptr _ _ _ _ _ _ (hg β _ _ _ hk)
  | oslZ => exact fun _ => .oslZ _ _ _ _ _
  | osl γ k wd i n b cap hk hc hs => exact fun β => .osl _ _ _ _ _ _ _ (hg β _ _ _ hk) hc hs

def Blk.shift (m : Nat) : Blk → Blk
  | .vars cells => .vars (SV.shift.shiftL m cells)
  | b => b

theorem BlkRel.shift {w : World} {A : Nat → Prop} {γ : List (Option Nat)} {o : Option Nat} {blk : Blk} (h : BlkRel w A γ o blk) (β : List (Option Nat)) : BlkRel w A (β ++ γ) o (blk.shift β.length) := by
  cases o with
  | none => trivial
  | some b =>
    cases blk with
    | dead => trivial
    | vars cells =>
      obtain ⟨cs, T, h1, h2, h3⟩ := h
      refine ⟨cs, T, h1, by rw [shiftL_length]; exact h2, fun j c v h4 h5 => ?_⟩
      rw [shiftL_get] at h4
      obtain ⟨c', hc', rfl⟩ := Option.map_eq_some_iff.1 h4
      exact (h3 j c' v hc' h5).shift β
    | arr wd xs => exact h

/-! ### Contracts -/

/-- A function that turns nothing that was there, and hands over new blocks. -/
def FO (P : Program) (f : FuncId) (args : List SV) (res : SV) (Hn : List Blk) : Prop :=
  (∀ vs w, (callFunc f vs).run P w = .ok (.enter f vs) w) ∧
  ∀ (w : World) (A : Nat → Prop) (vs : List Value), (∀ b, A b → b < w.heap.size) → Reps w A [] args vs →
    Calls P f vs.toArray w fun e w' => ∃ (v : Value) (γ : List (Option Nat)), e = .returned v ∧ Below w.heap.size w w' ∧ WRel w' (fun b => A b ∨ some b ∈ γ) γ Hn ∧ (∀ b, some b ∈ γ → w.heap.size ≤ b) ∧ Rep w' (fun b => A b ∨ some b ∈ γ) γ res v

/-- What is not one's own stays. -/
structure Frm (β : List (Option Nat)) (w w' : World) : Prop where
  os : w'.os = w.os
  tape : w'.tape = w.tape
  output : w'.output = w.output
  size : w.heap.size ≤ w'.heap.size
  keep : ∀ b, b < w.heap.size → some b ∉ β → w'.heap[b]? = w.heap[b]?
  shp : ∀ (b : Nat) (cs : Array Value) (T : TypeId) (fr : Nat × Nat), w.heap[b]? = some (.cells cs T fr) → ∃ (cs' : Array Value) (fr' : Nat × Nat), w'.heap[b]? = some (.cells cs' T fr') ∧ cs'.size = cs.size

/-- A function that writes into blocks that it is handed: from what they hold to what they hold behind it. ks: whose names are stale. -/
def HS (P : Program) (f : FuncId) (args : List SV) (H : List Blk) (res : SV) (H' : List Blk) (ks : List Nat) : Prop :=
  (∀ vs w, (callFunc f vs).run P w = .ok (.enter f vs) w) ∧
  ∀ (w : World) (A : Nat → Prop) (β : List (Option Nat)) (vs : List Value), (∀ b, A b → b < w.heap.size) → WRel w A β H → Reps w A β args vs →
    Calls P f vs.toArray w fun e w' => ∃ (v : Value) (A' : Nat → Prop) (β' : List (Option Nat)), e = .returned v ∧ Frm β w w' ∧ (∀ b, A' b → b < w'.heap.size) ∧ WRel w' A' β' H' ∧ (∀ b, b < w.heap.size → (A' b ↔ A b)) ∧
      (∀ (k b : Nat), β'[k]? = some (some b) → b < w.heap.size → some b ∈ β) ∧ (∀ k, k < β.length → k ∉ ks → β'[k]? = β[k]?) ∧ β.length ≤ β'.length ∧ Rep w' A' β' res v

/-! ### What is to be shown -/

def killE (k : Nat) : Env → Env
  | [] => []
  | (t, v) :: e => (t, v.kill k) :: killE k e
def killH (k : Nat) : List Blk → List Blk
  | [] => []
  | b :: H => b.kill k :: killH k H
def killEs : List Nat → Env → Env
  | [], e => e
  | k :: ks, e => killEs ks (killE k e)
def shiftH (m : Nat) : List Blk → List Blk
  | [] => []
  | b :: H => b.shift m :: shiftH m H

/-- The elements of a slice. -/
def elemsK (wd : Nat) (H : List Blk) (y : SV) (K : List (List SV) → Prop) : Prop :=
  match y with
  | .nils => K []
  | .slc wd' ys => wd' = wd ∧ K ys
  | .osl k wd' i n => match H[k]? with
    | some (.arr wd'' xs) => wd' = wd ∧ wd'' = wd ∧ i + n ≤ xs.length ∧ K ((xs.drop i).take n)
    | _ => False
  | _ => False

def callK (P : Program) (M : Nat) (ks : List Nat) (g : FuncId) (as : List SV) (e : Env) (H : List Blk) (K : SV → Env → List Blk → Prop) : Prop :=
  (SV.pure.pureL as = true ∧ ∃ res, FS P g as res ∧ K res e H) ∨
  (SV.pure.pureL as = true ∧ ∃ res Hn, FO P g as res Hn ∧ K (res.shift H.length) e (H ++ shiftH H.length Hn)) ∨
  (lendK P g as H fun res => K res e H) ∨
  (∃ res H' js, HS P g as H res H' js ∧ (∀ j ∈ js, M ≤ j ∨ j ∈ ks) ∧ K res (killEs js e) H') ∨
  (frzs (frzK 4 H) as fun as => ∃ res Hn, FO P g as res Hn ∧ SV.loose res = true ∧ (∀ b ∈ Hn, Blk.loose b) ∧ K (res.shift H.length) e (H ++ shiftH H.length Hn))

/-- Names from M on may get stale, and those of ks. -/
def xop (P : Program) (M : Nat) (ks : List Nat) (op : IOp) (e : Env) (H : List Blk) (K : SV → Env → List Blk → Prop) : Prop :=
  match op with
  | .al z => K (.ptr H.length 0 0 0) e (H ++ [.vars z])
  | .bx x => match cellsOf (ev e x) with
    | some fs => K (.ptr H.length 0 0 0) e (H ++ [.vars fs])
    | none => False
  | .mk wd bytes z l c => asI (ev e l) fun l => asI (ev e c) fun c => 0 ≤ l ∧ l ≤ c ∧ (bytes : Int) * c ≤ 281474976710656 ∧ c ≤ 9223372036854775807 ∧ SV.pure.pureL z = true ∧ K (.osl H.length wd 0 l.toNat) e (H ++ [.arr wd (List.replicate l.toNat z)])
  | .st s x v => match ev e x with
    | .ptr k wd i j => match cellsOf (ev e v) with
      | some fs => fs.length = s ∧ scalarL fs = true ∧ match H[k]? with
        | some (.vars cells) => i * wd + j + s ≤ cells.length ∧ K .any e (H.set k (.vars (splice cells (i * wd + j) fs)))
        | some (.arr wd' xs) => wd' = wd ∧ SV.pure.pureL fs = true ∧ j + s ≤ wd ∧ ∃ x, xs[i]? = some x ∧ K .any e (H.set k (.arr wd (xs.set i (splice x j fs))))
        | _ => False
      | none => False
    | _ => False
  | .ap wd bytes x y => elemsK wd H (ev e y) fun ys => match ev e x with
    | .osl k wd' i n => match H[k]? with
      | some (.arr wd'' xs) => wd' = wd ∧ wd'' = wd ∧ i = 0 ∧ n = xs.length ∧ (M ≤ k ∨ k ∈ ks) ∧ (n + ys.length) * bytes ≤ 140737488355328 ∧ n + ys.length ≤ 140737488355328 ∧ (∀ y ∈ ys, scalarL y = true) ∧
          K (.osl k wd 0 (n + ys.length)) (killE k e) ((killH k H).set k (.arr wd (xs ++ ys)))
      | _ => False
    | .nils => ys.length * bytes ≤ 140737488355328 ∧ ys.length ≤ 140737488355328 ∧ (∀ y ∈ ys, scalarL y = true) ∧ K (.osl H.length wd 0 ys.length) e (H ++ [.arr wd ys])
    | _ => False
  | .cp wd x y => elemsK wd H (ev e y) fun ys => match ev e x with
    | .osl k wd' i n => match H[k]? with
      | some (.arr wd'' xs) => wd' = wd ∧ wd'' = wd ∧ i + n ≤ xs.length ∧ (∀ y ∈ ys, scalarL y = true) ∧ K (.int .i64 (min ys.length n : Nat)) e (H.set k (.arr wd (xs.take i ++ (ys.take n ++ xs.drop (i + min ys.length n)))))
      | _ => False
    | _ => False
  | .call f args => match fnsOf (ev e f) with
    | some (g, caps) => callK P M ks g (args.map (ev e) ++ caps) e H K
    | none => False
  | op => pop P op e H fun sv => K sv e H

/-! ### The state -/

structure Cur (w0 : World) (A0 : Nat → Prop) (β0 : List (Option Nat)) (M : Nat) (ks : List Nat) (w : World) (A : Nat → Prop) (β : List (Option Nat)) (H : List Blk) : Prop where
  rel : WRel w A β H
  fin : ∀ b, A b → b < w.heap.size
  frm : Frm β0 w0 w
  agree : ∀ b, b < w0.heap.size → (A b ↔ A0 b)
  fresh : ∀ (k b : Nat), β[k]? = some (some b) → b < w0.heap.size → some b ∈ β0
  same : ∀ k, k < β0.length → ¬ (M ≤ k ∨ k ∈ ks) → β[k]? = β0[k]?
  more : β0.length ≤ β.length

def EnvRel (w : World) (A : Nat → Prop) (β : List (Option Nat)) (e : Env) (tmps : Array Value) : Prop := ∀ t, Rep w A β (look e t) (tmps.getD t undef)

theorem EnvRel.mono {w w' : World} {A A' : Nat → Prop} {β γ : List (Option Nat)} {e : Env} {tmps : Array Value} (h : EnvRel w A β e tmps) (s : Stp A w w') (hA : ∀ b, b < w.heap.size → A' b → A b) (hg : ∀ (k b : Nat), β[k]? = some (some b) → γ[k]? = some (some b)) : EnvRel w' A' γ e tmps :=
  fun t => ((h t).mono s hA).more γ hg

theorem look_kill (k : Nat) : ∀ (e : Env) (t : Nat), look (killE k e) t = (look e t).kill k
  | [], t => rfl
  | (t', v) :: e, t => by
    simp only [killE, look]
    split
    · rfl
    · exact look_kill k e t

theorem EnvRel.kill {w w' : World} {A A' : Nat → Prop} {β γ : List (Option Nat)} {e : Env} {tmps : Array Value} (h : EnvRel w A β e tmps) (s : Stp A w w') (hA : ∀ b, b < w.heap.size → A' b → A b) (k : Nat) (hg : ∀ (j b : Nat), j ≠ k → β[j]? = some (some b) → γ[j]? = some (some b)) : EnvRel w' A' γ (killE k e) tmps :=
  fun t => by rw [look_kill]; exact ((h t).mono s hA).kill k γ hg

theorem EnvRel.put {w : World} {A : Nat → Prop} {β : List (Option Nat)} {e : Env} {a : Act} {d : Option Nat} {sv : SV} {v : Value} (h : EnvRel w A β e a.tmps) (hd : ∀ t, d = some t → t < a.tmps.size) (hr : Rep w A β sv v) : EnvRel w A β (setE e d sv) (a.put d v).tmps := by
  cases d with
  | none => exact h
  | some d =>
    intro t
    simp only [setE, look, Act.put]
    by_cases ht : d = t
    · subst ht
      simp only [if_true]
      have := hd d rfl
      simpa [Array.getD, this] using hr
    · simp only [if_neg ht]
      have := h t
      simpa [Array.getD_eq_getD_getElem?, Array.getElem?_setIfInBounds, ht] using this

theorem Frm.refl (β : List (Option Nat)) (w : World) : Frm β w w := ⟨rfl, rfl, rfl, Nat.le_refl _, fun _ _ _ => rfl, fun _ cs _ fr h => ⟨cs, fr, h, rfl⟩⟩
/-- Then a step that turns own blocks alone. -/
theorem Frm.step {β0 β : List (Option Nat)} {w0 w w' : World} (h : Frm β0 w0 w) (k : Frm β w w') (hf : ∀ (k b : Nat), β[k]? = some (some b) → b < w0.heap.size → some b ∈ β0) : Frm β0 w0 w' :=
  ⟨k.os.trans h.os, k.tape.trans h.tape, k.output.trans h.output, Nat.le_trans h.size k.size, fun b hb hn => (k.keep b (Nat.lt_of_lt_of_le hb h.size) fun hm => by
      obtain ⟨i, hi, he⟩ := List.getElem_of_mem hm
      exact hn (hf i b (by simp [hi, he]) hb)).trans (h.keep b hb hn), fun b cs T fr hc => by
    obtain ⟨cs1, fr1, h1, e1⟩ := h.shp b cs T fr hc
    obtain ⟨cs2, fr2, h2, e2⟩ := k.shp b cs1 T fr1 h1
    exact ⟨cs2, fr2, h2, e2.trans e1⟩⟩
theorem Frm.below {β : List (Option Nat)} {w w' : World} (h : Below w.heap.size w w') : Frm β w w' :=
  ⟨h.os, h.tape, h.output, h.size, fun b hb _ => h.block b hb, fun b cs T fr hc => ⟨cs, fr, by rw [h.block b (heap_lt hc)]; exact hc, rfl⟩⟩
/-- One's own blocks are among those that may be written. -/
theorem Frm.stp {A : Nat → Prop} {β : List (Option Nat)} {w w' : World} (h : Frm β w w') (ho : ∀ (k b : Nat), β[k]? = some (some b) → A b) : Stp A w w' :=
  ⟨h.os, h.tape, h.output, h.size, fun b hb hn => h.keep b hb fun hm => by
    obtain ⟨i, hi, he⟩ := List.getElem_of_mem hm
    exact hn (ho i b (by simp [hi, he])), h.shp⟩

end Go.Proofs.Ytefciekodhpefaa
