/- Values as a reader sees them: what a value of Go stands for in a world, and that it stays so. -/
import Derived.Below
import Derived.WalkKit
import Derived.CallsIn
import Derived.OrdersIn
import Derived.StillTail
import Derived.RangeFuncOwn
import Derived.RangeFuncLeaves
namespace Go.Proofs.Ytefciekodhpefaa
open Go.RowKit

/-- What a value stands for: numbers, truths, texts, structs, closures; a slice of what is never written again; addresses and slices of blocks that are the walk's own (by their place in a list). -/
inductive SV where
  | any
  | int (k : IntKind) (x : Int)
  | bool (b : Bool)
  | str (s : List UInt8)
  | agg (fs : List SV)
  | tup (fs : List SV)
  | fn (f : FuncId) (caps : List SV)
  | nils
  | slc (wd : Nat) (xs : List (List SV))
  | box (cells : List SV) (j : Nat)
  | ptr (k wd i j : Nat)
  | osl (k wd i n : Nat)
  | raw (v : Value)
  | anyb
  deriving Inhabited

/-- Elements of some cells each lie in a block from a cell on; the block is none of those that may be written. -/
structure Mem (w : World) (A : Nat → Prop) (b off wd : Nat) (xs : List (List SV)) (vs : Nat → Value) : Prop where
  blk : ∃ (cs : Array Value) (T : TypeId) (fr : Nat × Nat), w.heap[b]? = some (.cells cs T fr) ∧ ∀ (i : Nat) (x : List SV) (j : Nat), xs[i]? = some x → j < wd → cs[off + i * wd + j]? = some (vs (off + i * wd + j))
  away : ¬ A b
  len : ∀ (i : Nat) (x : List SV), xs[i]? = some x → x.length = wd

/-- What stands for what. A: the blocks that may be written. β: the numbers of the walk's own blocks. -/
inductive Rep (w : World) (A : Nat → Prop) : List (Option Nat) → SV → Value → Prop
  | any (β) (v : Value) : Rep w A β .any v
  | int (β) (k : IntKind) (x : Int) : Rep w A β (.int k x) (.int k x)
  | bool (β) (b : Bool) : Rep w A β (.bool b) (.bool b)
  | str (β) (s : List UInt8) : Rep w A β (.str s) (.string ⟨s.toArray⟩)
  | raw (β) (v : Value) : Rep w A β (.raw v) v
  | anyb (β) (b : Bool) : Rep w A β .anyb (.bool b)
  | agg (β) (fs : List SV) (vs : List Value) (hl : vs.length = fs.length) (h : ∀ (i : Nat) (f : SV) (v : Value), fs[i]? = some f → vs[i]? = some v → Rep w A β f v) : Rep w A β (.agg fs) (.agg vs.toArray)
  | tup (β) (fs : List SV) (vs : List Value) (hl : vs.length = fs.length) (h : ∀ (i : Nat) (f : SV) (v : Value), fs[i]? = some f → vs[i]? = some v → Rep w A β f v) : Rep w A β (.tup fs) (.tuple vs.toArray)
  | fn (β) (f : FuncId) (fs : List SV) (vs : List Value) (hl : vs.length = fs.length) (h : ∀ (i : Nat) (f : SV) (v : Value), fs[i]? = some f → vs[i]? = some v → Rep w A β f v) : Rep w A β (.fn f fs) (.func (.func f) #[] vs.toArray)
  | nils (β) (a : Option Addr) : Rep w A β .nils (.slice a 0 0)
  | slcZ (β) (wd : Nat) (a : Option Addr) : Rep w A β (.slc wd []) (.slice a 0 0)
  | slc (β) (wd : Nat) (xs : List (List SV)) (b off cap : Nat) (vs : Nat → Value) (hm : Mem w A b off wd xs vs) (hc : xs.length ≤ cap)
      (h : ∀ (i : Nat) (x : List SV) (j : Nat) (c : SV), xs[i]? = some x → x[j]? = some c → Rep w A [] c (vs (off + i * wd + j))) : Rep w A β (.slc wd xs) (.slice (some ⟨b, off, none⟩) xs.length cap)
  | box (β) (cells : List SV) (j0 b off : Nat) (vs : Nat → Value) (hm : Mem w A b off cells.length [cells] vs)
      (h : ∀ (j : Nat) (c : SV), cells[j]? = some c → Rep w A [] c (vs (off + j))) : Rep w A β (.box cells j0) (.pointer (some ⟨b, off + j0, none⟩))
  | ptr (β) (k wd i j b : Nat) (hk : β[k]? = some (some b)) : Rep w A β (.ptr k wd i j) (.pointer (some ⟨b, i * wd + j, none⟩))
  | oslZ (β) (k wd i : Nat) (a : Option Addr) : Rep w A β (.osl k wd i 0) (.slice a 0 0)
  | osl (β) (k wd i n b cap : Nat) (hk : β[k]? = some (some b)) (hc : n ≤ cap) (hs : ∃ (cs : Array Value) (T : TypeId) (fr : Nat × Nat), w.heap[b]? = some (.cells cs T fr) ∧ (i + cap) * wd ≤ cs.size) : Rep w A β (.osl k wd i n) (.slice (some ⟨b, i * wd, none⟩) n cap)

/-- A step of the world: what may not be written stays; no block of cells changes its size. -/
structure Stp (A : Nat → Prop) (w w' : World) : Prop where
  os : w'.os = w.os
  tape : w'.tape = w.tape
  output : w'.output = w.output
  size : w.heap.size ≤ w'.heap.size
  keep : ∀ b, b < w.heap.size → ¬ A b → w'.heap[b]? = w.heap[b]?
  shp : ∀ (b : Nat) (cs : Array Value) (T : TypeId) (fr : Nat × Nat), w.heap[b]? = some (.cells cs T fr) → ∃ (cs' : Array Value) (fr' : Nat × Nat), w'.heap[b]? = some (.cells cs' T fr') ∧ cs'.size = cs.size

theorem heap_lt {w : World} {b : Nat} {o : Obj} (h : w.heap[b]? = some o) : b < w.heap.size := (Array.getElem?_eq_some_iff.1 h).1

theorem Stp.refl (A : Nat → Prop) (w : World) : Stp A w w := ⟨rfl, rfl, rfl, Nat.le_refl _, fun _ _ _ => rfl, fun _ cs _ fr h => ⟨cs, fr, h, rfl⟩⟩
theorem Stp.trans {A A' : Nat → Prop} {w w1 w2 : World} (h : Stp A w w1) (k : Stp A' w1 w2) (hA : ∀ b, b < w.heap.size → A' b → A b) : Stp A w w2 :=
  ⟨k.os.trans h.os, k.tape.trans h.tape, k.output.trans h.output, Nat.le_trans h.size k.size, fun b hb hn => (k.keep b (Nat.lt_of_lt_of_le hb h.size) fun ha => hn (hA b hb ha)).trans (h.keep b hb hn), fun b cs T fr hc => by
    obtain ⟨cs1, fr1, h1, e1⟩ := h.shp b cs T fr hc
    obtain ⟨cs2, fr2, h2, e2⟩ := k.shp b cs1 T fr1 h1
    exact ⟨cs2, fr2, h2, e2.trans e1⟩⟩

theorem Stp.below {A : Nat → Prop} {w w' : World} (h : Below w.heap.size w w') : Stp A w w' :=
  ⟨h.os, h.tape, h.output, h.size, fun b hb _ => h.block b hb, fun b cs T fr hc => ⟨cs, fr, by rw [h.block b (heap_lt hc)]; exact hc, rfl⟩⟩

theorem Mem.mono {w w' : World} {A A' : Nat → Prop} {b off wd : Nat} {xs : List (List SV)} {vs : Nat → Value} (h : Mem w A b off wd xs vs) (s : Stp A w w')
    (hA : ∀ b, b < w.heap.size → A' b → A b) : Mem w' A' b off wd xs vs := by
  obtain ⟨⟨cs, T, fr, hb, hc⟩, haw, hl⟩ := h
  have hlt := heap_lt hb
  exact ⟨⟨cs, T, fr, by rw [s.keep b hlt haw]; exact hb, hc⟩, fun ha => haw (hA b hlt ha), hl⟩

theorem Rep.mono {w w' : World} {A A' : Nat → Prop} (s : Stp A w w') (hA : ∀ b, b < w.heap.size → A' b → A b) {β : List (Option Nat)} {x : SV} {v : Value} (h : Rep w A β x v) : Rep w' A' β x v := by
  induction h with
  | any β v => exact .any _ _
  | int => exact .int _ _ _
  | bool => exact .bool _ _
  | str => exact .str _ _
  | raw => exact .raw _ _
  | anyb => exact .anyb _ _
  | agg β fs vs hl _ ih => exact .agg _ _ _ hl ih
  | tup β fs vs hl _ ih => exact .tup _ _ _ hl ih
  | fn β f fs vs hl _ ih => exact .fn _ _ _ _ hl ih
  | nils => exact .nils _ _
  | slcZ => exact .slcZ _ _ _
  | slc β wd xs b off cap vs hm hc _ ih => exact .slc _ _ _ _ _ _ vs (hm.mono s hA) hc ih
  | box β cells j0 b off vs hm _ ih => exact .box _ _ _ _ _ vs (hm.mono s hA) ih
  | ptr β k wd i j b hk => exact .ptr _ _ _ _ _ _ hk
  | oslZ => exact .oslZ _ _ _ _ _
  | osl β k wd i n b cap hk hc hs =>
    obtain ⟨cs, T, fr, hb, hsz⟩ := hs
    obtain ⟨cs', fr', hb', e⟩ := s.shp b cs T fr hb
    exact .osl _ _ _ _ _ _ _ hk hc ⟨cs', T, fr', hb', by rw [e]; exact hsz⟩

/-- More blocks of one's own do no harm. -/
theorem Rep.more {w : World} {A : Nat → Prop} {β : List (Option Nat)} {x : SV} {v : Value} (h : Rep w A β x v) : ∀ γ : List (Option Nat), (∀ (k b : Nat), β[k]? = some (some b) → γ[k]? = some (some b)) → Rep w A γ x v := by
  induction h with
  | any β v => exact fun _ _ => .any _ _
  | int => exact fun _ _ => .int _ _ _
  | bool => exact fun _ _ => .bool _ _
  | str => exact fun _ _ => .str _ _
  | raw => exact fun _ _ => .raw _ _
  | anyb => exact fun _ _ => .anyb _ _
  | agg β fs vs hl _ ih => exact fun γ hg => .agg _ _ _ hl fun i f v h1 h2 => ih i f v h1 h2 γ hg
  | tup β fs vs hl _ ih => exact fun γ hg => .tup _ _ _ hl fun i f v h1 h2 => ih i f v h1 h2 γ hg
  | fn β f fs vs hl _ ih => exact fun γ hg => .fn _ _ _ _ hl fun i f v h1 h2 => ih i f v h1 h2 γ hg
  | nils => exact fun _ _ => .nils _ _
  | slcZ => exact fun _ _ => .slcZ _ _ _
  | slc β wd xs b off cap vs hm hc h _ => exact fun _ _ => .slc _ _ _ _ _ _ vs hm hc h
  | box β cells j0 b off vs hm h _ => exact fun _ _ => .box _ _ _ _ _ vs hm h
  | ptr β k wd i j b hk => exact fun γ hg => .ptr _ _ _ _ _ _ (hg _ _ hk)
  | oslZ => exact fun _ _ => .oslZ _ _ _ _ _
  | osl β k wd i n b cap hk hc hs => exact fun γ hg => .osl _ _ _ _ _ _ _ (hg _ _ hk) hc hs

/-- It names none of one's own blocks. -/
def SV.pure : SV → Bool
  | .ptr .. | .osl .. => false
  | .agg fs | .tup fs | .fn _ fs => pureL fs
  | _ => true
where pureL : List SV → Bool
  | [] => true
  | f :: fs => f.pure && pureL fs

theorem pureL_mem {fs : List SV} (h : SV.pure.pureL fs = true) : ∀ (i : Nat) (f : SV), fs[i]? = some f → f.pure = true := by
  induction fs with
  | nil => intro i f hf; simp at hf
  | cons g fs ih =>
    simp only [SV.pure.pureL, Bool.and_eq_true] at h
    intro i f hf
    cases i with
    | zero => simp at hf; exact hf ▸ h.1
    | succ i => exact ih h.2 i f (by simpa using hf)

theorem Rep.purely {w : World} {A : Nat → Prop} {β : List (Option Nat)} {x : SV} {v : Value} (h : Rep w A β x v) : x.pure = true → ∀ γ, Rep w A γ x v := by
  induction h with
  | any β v => exact fun _ _ => .any _ _
  | int => exact fun _ _ => .int _ _ _
  | bool => exact fun _ _ => .bool _ _
  | str => exact fun _ _ => .str _ _
  | raw => exact fun _ _ => .raw _ _
  | anyb => exact fun _ _ => .anyb _ _
  | agg β fs vs hl _ ih => exact fun hp γ => .agg _ _ _ hl fun i f v h1 h2 => ih i f v h1 h2 (pureL_mem hp i f h1) γ
  | tup β fs vs hl _ ih => exact fun hp γ => .tup _ _ _ hl fun i f v h1 h2 => ih i f v h1 h2 (pureL_mem hp i f h1) γ
  | fn β f fs vs hl _ ih => exact fun hp γ => .fn _ _ _ _ hl fun i f v h1 h2 => ih i f v h1 h2 (pureL_mem hp i f h1) γ
  | nils => exact fun _ _ => .nils _ _
  | slcZ => exact fun _ _ => .slcZ _ _ _
  | slc β wd xs b off cap vs hm hc h _ => exact fun _ _ => .slc _ _ _ _ _ _ vs hm hc h
  | box β cells j0 b off vs hm h _ => exact fun _ _ => .box _ _ _ _ _ vs hm h
  | ptr => exact fun hp => by cases hp
  | oslZ => exact fun hp => by cases hp
  | osl => exact fun hp => by cases hp

/-- What named block k is forgotten. -/
def SV.kill (k : Nat) : SV → SV
  | .ptr k' wd i j => if k' = k then .any else .ptr k' wd i j
  | .osl k' wd i n => if k' = k then .any else .osl k' wd i n
  | .agg fs => .agg (killL fs)
  | .tup fs => .tup (killL fs)
  | .fn f fs => .fn f (killL fs)
  | x => x
where killL : List SV → List SV
  | [] => []
  | f :: fs => f.kill k :: killL fs

theorem killL_get (k : Nat) : ∀ (fs : List SV) (i : Nat), (SV.kill.killL k fs)[i]? = (fs[i]?).map (SV.kill k)
  | [], i => by simp [SV.kill.killL]
  | f :: fs, 0 => by simp [SV.kill.killL]
  | f :: fs, i + 1 => by simp [SV.kill.killL, killL_get k fs i]
theorem killL_length (k : Nat) : ∀ fs : List SV, (SV.kill.killL k fs).length = fs.length
  | [] => rfl
  | f :: fs => by simp [SV.kill.killL, killL_length k fs]

theorem Rep.kill {w : World} {A : Nat → Prop} {β : List (Option Nat)} {x : SV} {v : Value} (h : Rep w A β x v) (k : Nat) : ∀ γ : List (Option Nat), (∀ (j b : Nat), j ≠ k → β[j]? = some (some b) → γ[j]? = some (some b)) → Rep w A γ (x.kill k) v := by
  induction h with
  | any β v => exact fun _ _ => .any _ _
  | int => exact fun _ _ => .int _ _ _
  | bool => exact fun _ _ => .bool _ _
  | str => exact fun _ _ => .str _ _
  | raw => exact fun _ _ => .raw _ _
  | anyb => exact fun _ _ => .anyb _ _
  | agg β fs vs hl _ ih =>
    intro γ hg
    refine .agg _ _ _ (by rw [killL_length]; exact hl) fun i f v h1 h2 => ?_
    rw [killL_get] at h1
    obtain ⟨f', hf', rfl⟩ := Option.map_eq_some_iff.1 h1
    exact ih i f' v hf' h2 γ hg
  | tup β fs vs hl _ ih =>
    intro γ hg
    refine .tup _ _ _ (by rw [killL_length]; exact hl) fun i f v h1 h2 => ?_
    rw [killL_get] at h1
    obtain ⟨f', hf', rfl⟩ := Option.map_eq_some_iff.1 h1
    exact ih i f' v hf' h2 γ hg
  | fn β f fs vs hl _ ih =>
    intro γ hg
    refine .fn _ _ _ _ (by rw [killL_length]; exact hl) fun i f v h1 h2 => ?_
    rw [killL_get] at h1
    obtain ⟨f', hf', rfl⟩ := Option.map_eq_some_iff.1 h1
    exact ih i f' v hf' h2 γ hg
  | nils => exact fun _ _ => .nils _ _
  | slcZ => exact fun _ _ => .slcZ _ _ _
  | slc β wd xs b off cap vs hm hc h _ => exact fun _ _ => .slc _ _ _ _ _ _ vs hm hc h
  | box β cells j0 b off vs hm h _ => exact fun _ _ => .box _ _ _ _ _ vs hm h
  | ptr β k' wd i j b hk =>
    intro γ hg
    simp only [SV.kill]; split
    · exact .any _ _
    · rename_i hne; exact .ptr _ _ _ _ _ _ (hg _ _ hne hk)
  | oslZ β k' wd i a =>
    intro γ hg
    simp only [SV.kill]; split
    · exact .any _ _
    · exact .oslZ _ _ _ _ _
  | osl β k' wd i n b cap hk hc hs =>
    intro γ hg
    simp only [SV.kill]; split
    · exact .any _ _
    · rename_i hne; exact .osl _ _ _ _ _ _ _ (hg _ _ hne hk) hc hs

/-! ### The walk's own blocks -/

/-- What lies in one of one's own blocks: variables; elements of some cells each; nothing that is known. -/
inductive Blk where
  | dead
  | vars (cells : List SV)
  | arr (wd : Nat) (xs : List (List SV))
  deriving Inhabited

def BlkRel (w : World) (A : Nat → Prop) (β : List (Option Nat)) : Option Nat → Blk → Prop
  | none, _ => True
  | some _, .dead => True
  | some b, .vars cells => ∃ (cs : List Value) (T : TypeId), w.heap[b]? = some (.cells cs.toArray T (0, 0)) ∧ cs.length = cells.length ∧ ∀ (j : Nat) (c : SV) (v : Value), cells[j]? = some c → cs[j]? = some v → Rep w A β c v
  | some b, .arr wd xs => ∃ (cs : List Value) (T : TypeId), w.heap[b]? = some (.cells cs.toArray T (0, 0)) ∧ xs.length * wd ≤ cs.length ∧
      ∀ (i : Nat) (x : List SV), xs[i]? = some x → x.length = wd ∧ ∀ (j : Nat) (c : SV), x[j]? = some c → ∃ v, cs[i * wd + j]? = some v ∧ Rep w A [] c v

/-- The list H tells what lies in the own blocks β. -/
structure WRel (w : World) (A : Nat → Prop) (β : List (Option Nat)) (H : List Blk) : Prop where
  len : β.length = H.length
  inj : ∀ (k k' b : Nat), β[k]? = some (some b) → β[k']? = some (some b) → k = k'
  own : ∀ (k b : Nat), β[k]? = some (some b) → A b ∧ b < w.heap.size
  blk : ∀ (k : Nat) (o : Option Nat) (blk : Blk), β[k]? = some o → H[k]? = some blk → BlkRel w A β o blk

/-- What is known of the own blocks. -/
structure WB (w : World) (A : Nat → Prop) (β : List (Option Nat)) (H : List Blk) : Prop where
  blk : ∀ (k : Nat) (o : Option Nat) (blk : Blk), β[k]? = some o → H[k]? = some blk → BlkRel w A β o blk

theorem WRel.wb {w : World} {A : Nat → Prop} {β : List (Option Nat)} {H : List Blk} (h : WRel w A β H) : WB w A β H := ⟨h.blk⟩

theorem WRel.nil (w : World) (A : Nat → Prop) : WRel w A [] [] := ⟨rfl, fun k k' b h => by simp at h, fun k b h => by simp at h, fun k o blk h => by simp at h⟩

/-- A block whose cells stay keeps what it holds. -/
theorem BlkRel.keep {w w' : World} {A A' : Nat → Prop} {β γ : List (Option Nat)} {o : Option Nat} {blk : Blk} (h : BlkRel w A β o blk) (s : Stp A w w') (hA : ∀ b, b < w.heap.size → A' b → A b)
    (hg : ∀ (k b : Nat), β[k]? = some (some b) → γ[k]? = some (some b)) (hb : ∀ b, o = some b → w'.heap[b]? = w.heap[b]?) : BlkRel w' A' γ o blk := by
  cases o with
  | none => trivial
  | some b =>
    cases blk with
    | dead => trivial
    | vars cells =>
      obtain ⟨cs, T, h1, h2, h3⟩ := h
      exact ⟨cs, T, by rw [hb b rfl]; exact h1, h2, fun j c v h4 h5 => ((h3 j c v h4 h5).mono s hA).more γ hg⟩
    | arr wd xs =>
      obtain ⟨cs, T, h1, h2, h3⟩ := h
      exact ⟨cs, T, by rw [hb b rfl]; exact h1, h2, fun i x hx => ⟨(h3 i x hx).1, fun j c hc => by
        obtain ⟨v, h4, h5⟩ := (h3 i x hx).2 j c hc
        exact ⟨v, h4, h5.mono s hA⟩⟩⟩

def Blk.kill (k : Nat) : Blk → Blk
  | .vars cells => .vars (SV.kill.killL k cells)
  | b => b

theorem BlkRel.killed {w w' : World} {A A' : Nat → Prop} {β γ : List (Option Nat)} {o : Option Nat} {blk : Blk} (h : BlkRel w A β o blk) (s : Stp A w w') (hA : ∀ b, b < w.heap.size → A' b → A b) (k : Nat)
    (hg : ∀ (j b : Nat), j ≠ k → β[j]? = some (some b) → γ[j]? = some (some b)) (hb : ∀ b, o = some b → w'.heap[b]? = w.heap[b]?) : BlkRel w' A' γ o (blk.kill k) := by
  cases o with
  | none => trivial
  | some b =>
    cases blk with
    | dead => trivial
    | vars cells =>
      obtain ⟨cs, T, h1, h2, h3⟩ := h
      refine ⟨cs, T, by rw [hb b rfl]; exact h1, by rw [killL_length]; exact h2, fun j c v h4 h5 => ?_⟩
      rw [killL_get] at h4
      obtain ⟨c', hc', rfl⟩ := Option.map_eq_some_iff.1 h4
      exact ((h3 j c' v hc' h5).mono s hA).kill k γ hg
    | arr wd xs =>
      obtain ⟨cs, T, h1, h2, h3⟩ := h
      exact ⟨cs, T, by rw [hb b rfl]; exact h1, h2, fun i x hx => ⟨(h3 i x hx).1, fun j c hc => by
        obtain ⟨v, h4, h5⟩ := (h3 i x hx).2 j c hc
        exact ⟨v, h4, h5.mono s hA⟩⟩⟩

/-- A step that turns nothing that was there. -/
theorem WRel.step {w w' : World} {A : Nat → Prop} {β : List (Option Nat)} {H : List Blk} (h : WRel w A β H) (s : Stp A w w') (hk : ∀ (k b : Nat), β[k]? = some (some b) → w'.heap[b]? = w.heap[b]?) : WRel w' A β H :=
  ⟨h.len, h.inj, fun k b hb => ⟨(h.own k b hb).1, Nat.lt_of_lt_of_le (h.own k b hb).2 s.size⟩, fun k o blk ho hb => (h.blk k o blk ho hb).keep s (fun _ _ h => h) (fun _ _ h => h) (fun b e => hk k b (by rw [ho, e]))⟩

/-! ### One's own blocks are never written again -/

def frzs (f : SV → (SV → Prop) → Prop) : List SV → (List SV → Prop) → Prop
  | [], K => K []
  | x :: xs, K => f x fun y => frzs f xs fun ys => K (y :: ys)

def frzK : Nat → List Blk → SV → (SV → Prop) → Prop
  | 0, _, x, K => SV.pure x = true ∧ K x
  | n + 1, H, x, K => match x with
    | .ptr k wd i j => match H[k]? with
      | some (.vars cells) => frzs (frzK n H) cells fun cs => K (.box cs (i * wd + j))
      | _ => False
    | .osl k wd i m => match H[k]? with
      | some (.arr wd' xs) => wd' = wd ∧ i + m ≤ xs.length ∧ K (.slc wd ((xs.drop i).take m))
      | _ => False
    | .agg fs => frzs (frzK n H) fs fun fs => K (.agg fs)
    | .tup fs => frzs (frzK n H) fs fun fs => K (.tup fs)
    | .fn g fs => frzs (frzK n H) fs fun fs => K (.fn g fs)
    | .any => K .any
    | .int k x => K (.int k x)
    | .bool b => K (.bool b)
    | .str s => K (.str s)
    | .nils => K .nils
    | .slc wd xs => K (.slc wd xs)
    | .box cells j => K (.box cells j)
    | .raw v => K (.raw v)
    | .anyb => K .anyb

section
variable {H : List Blk}

/-- What a frozen thing stands for. -/
def Frz (H : List Blk) (x y : SV) : Prop := ∀ (w : World) (A A1 : Nat → Prop) (β : List (Option Nat)) (v : Value), WB w A β H → (∀ b, A1 b → A b) → (∀ (k b : Nat), β[k]? = some (some b) → ¬ A1 b) → Rep w A β x v → Rep w A1 [] y v

theorem frzs_sound {f : SV → (SV → Prop) → Prop} (hf : ∀ x K, f x K → ∃ y, K y ∧ Frz H x y) : ∀ (xs : List SV) (K : List SV → Prop), frzs f xs K → ∃ ys, K ys ∧ ys.length = xs.length ∧ ∀ (i : Nat) (x y : SV), xs[i]? = some x → ys[i]? = some y → Frz H x y
  | [], K, h => ⟨[], h, rfl, fun i x y h => by simp at h⟩
  | x :: xs, K, h => by
    obtain ⟨y, h, hy⟩ := hf x _ h
    obtain ⟨ys, hK, hl, hys⟩ := frzs_sound hf xs _ h
    refine ⟨y :: ys, hK, by simp [hl], fun i x' y' h1 h2 => ?_⟩
    cases i with
    | zero => simp at h1 h2; subst h1 h2; exact hy
    | succ i => exact hys i x' y' (by simpa using h1) (by simpa using h2)

theorem frz_list {xs ys : List SV} {vs : List Value} {w : World} {A A1 : Nat → Prop} {β : List (Option Nat)} (hl : ys.length = xs.length) (hys : ∀ (i : Nat) (x y : SV), xs[i]? = some x → ys[i]? = some y → Frz H x y) (hW : WB w A β H) (hA : ∀ b, A1 b → A b) (ho : ∀ (k b : Nat), β[k]? = some (some b) → ¬ A1 b)
    (hr : ∀ (i : Nat) (f : SV) (v : Value), xs[i]? = some f → vs[i]? = some v → Rep w A β f v) : ∀ (i : Nat) (f : SV) (v : Value), ys[i]? = some f → vs[i]? = some v → Rep w A1 [] f v := by
  intro i f v h1 h2
  have hi : i < xs.length := by rw [← hl]; exact (List.getElem?_eq_some_iff.1 h1).1
  exact hys i _ f (List.getElem?_eq_getElem hi) h1 w A A1 β v hW hA ho (hr i _ v (List.getElem?_eq_getElem hi) h2)

theorem frzK_sound : ∀ (n : Nat) (x : SV) (K : SV → Prop), frzK n H x K → ∃ y, K y ∧ Frz H x y
  | 0, x, K, h => ⟨x, h.2, fun w A A1 β v _ hA _ hr => (hr.purely h.1 []).mono (Stp.refl _ _) fun b _ hb => hA b hb⟩
  | n + 1, x, K, h => by
    have pure : ∀ y, y.pure = true → K y → x = y → ∃ y, K y ∧ Frz H x y := fun y hp hK e => ⟨y, hK, fun w A A1 β v _ hA _ hr => by
      subst e; exact (hr.purely hp []).mono (Stp.refl _ _) fun b _ hb => hA b hb⟩
    cases x with
    | ptr k wd i j =>
      simp only [frzK] at h
      split at h
      · rename_i cells hk
        obtain ⟨ys, hK, hl, hys⟩ := frzs_sound (frzK_sound n) cells _ h
        refine ⟨_, hK, fun w A A1 β v hW hA ho hr => ?_⟩
        cases hr
        rename_i b hb
        obtain ⟨cs, T, h1, h2, h3⟩ := hW.blk k (some b) _ hb hk
        have hz := frz_list hl hys hW hA ho h3
        have := Rep.box (w := w) (A := A1) [] ys (i * wd + j) b 0 (fun k => (cs[k]?).getD undef) ⟨⟨cs.toArray, T, _, h1, fun i' x j' hx hj' => ?_⟩, ho k b hb, fun i' x hx => ?_⟩ fun j' c hc => ?_
        · simpa using this
        · cases i' with
          | zero =>
            have : j' < cs.length := by omega
            simp [this]
          | succ i' => simp at hx
        · cases i' with
          | zero => simp at hx; rw [← hx]
          | succ i' => simp at hx
        · have hj' : j' < cs.length := by rw [h2, ← hl]; exact (List.getElem?_eq_some_iff.1 hc).1
          have := hz j' c cs[j'] hc (by simp [hj'])
          simpa [hj'] using this
      · exact h.elim
    | osl k wd i m =>
      simp only [frzK] at h
      split at h
      · rename_i wd' xs hk
        obtain ⟨rfl, him, hK⟩ := h
        refine ⟨_, hK, fun w A A1 β v hW hA ho hr => ?_⟩
        have hlen : ((xs.drop i).take m).length = m := by simp; omega
        cases hr with
        | oslZ => exact .slcZ _ _ _
        | osl _ _ _ _ _ b cap hb hc hs =>
          obtain ⟨cs, T, h1, h2, h3⟩ := hW.blk k (some b) _ hb hk
          have hget : ∀ (i' : Nat) (x : List SV), ((xs.drop i).take m)[i']? = some x → xs[i + i']? = some x := fun i' x hx => by
            have hi' : i' < m := by rw [← hlen]; exact (List.getElem?_eq_some_iff.1 hx).1
            rw [List.getElem?_take_of_lt hi', List.getElem?_drop] at hx
            exact hx
          have hidx : ∀ i' j', (i + i') * wd' + j' = i * wd' + i' * wd' + j' := fun i' j' => by rw [Nat.add_mul]
          have := Rep.slc (w := w) (A := A1) [] wd' ((xs.drop i).take m) b (i * wd') cap (fun k => (cs[k]?).getD undef) ⟨⟨cs.toArray, T, _, h1, fun i' x j' hx hj' => ?_⟩, ho k b hb, fun i' x hx => (h3 _ x (hget i' x hx)).1⟩ (by rw [hlen]; exact hc) fun i' x j' c hx hc' => ?_
          · rwa [hlen] at this
          · obtain ⟨h4, h5⟩ := h3 _ x (hget i' x hx)
            obtain ⟨u, h6, _⟩ := h5 j' (x[j']'(by omega)) (by simp)
            rw [hidx] at h6
            simp [h6]
          · obtain ⟨h4, h5⟩ := h3 _ x (hget i' x hx)
            obtain ⟨u, h6, h7⟩ := h5 j' c hc'
            rw [hidx] at h6
            rw [h6]
            exact h7.mono (Stp.refl _ _) fun b _ hb => hA b hb
      · exact h.elim
    | agg fs =>
      obtain ⟨ys, hK, hl, hys⟩ := frzs_sound (frzK_sound n) fs _ h
      refine ⟨_, hK, fun w A A1 β v hW hA ho hr => ?_⟩
      cases hr
      rename_i vs hl' hr
      exact .agg _ _ _ (by rw [hl]; exact hl') (frz_list hl hys hW hA ho hr)
    | tup fs =>
      obtain ⟨ys, hK, hl, hys⟩ := frzs_sound (frzK_sound n) fs _ h
      refine ⟨_, hK, fun w A A1 β v hW hA ho hr => ?_⟩
      cases hr
      rename_i vs hl' hr
      exact .tup _ _ _ (by rw [hl]; exact hl') (frz_list hl hys hW hA ho hr)
    | fn g fs =>
      obtain ⟨ys, hK, hl, hys⟩ := frzs_sound (frzK_sound n) fs _ h
      refine ⟨_, hK, fun w A A1 β v hW hA ho hr => ?_⟩
      cases hr
      rename_i vs hl' hr
      exact .fn _ _ _ _ (by rw [hl]; exact hl') (frz_list hl hys hW hA ho hr)
    | any => exact pure _ rfl h rfl
    | int => exact pure _ rfl h rfl
    | bool => exact pure _ rfl h rfl
    | str => exact pure _ rfl h rfl
    | nils => exact pure _ rfl h rfl
    | slc => exact pure _ rfl h rfl
    | box => exact pure _ rfl h rfl
    | raw => exact pure _ rfl h rfl
    | anyb => exact pure _ rfl h rfl

end

/-- It leads to no block of others'. -/
def SV.loose : SV → Bool
  | .slc .. | .box .. | .fn .. => false
  | .agg fs | .tup fs => looseL fs
  | _ => true
where looseL : List SV → Bool
  | [] => true
  | f :: fs => f.loose && looseL fs

theorem looseL_mem {fs : List SV} (h : SV.loose.looseL fs = true) : ∀ (i : Nat) (f : SV), fs[i]? = some f → f.loose = true := by
  induction fs with
  | nil => intro i f hf; simp at hf
  | cons g fs ih =>
    simp only [SV.loose.looseL, Bool.and_eq_true] at h
    intro i f hf
    cases i with
    | zero => simp at hf; exact hf ▸ h.1
    | succ i => exact ih h.2 i f (by simpa using hf)

theorem Rep.loosely {w : World} {A : Nat → Prop} {β : List (Option Nat)} {x : SV} {v : Value} (h : Rep w A β x v) : x.loose = true → ∀ A', Rep w A' β x v := by
  induction h with
  | any β v => exact fun _ _ => .any _ _
  | int => exact fun _ _ => .int _ _ _
  | bool => exact fun _ _ => .bool _ _
  | str => exact fun _ _ => .str _ _
  | raw => exact fun _ _ => .raw _ _
  | anyb => exact fun _ _ => .anyb _ _
  | agg β fs vs hl _ ih => exact fun hp A' => .agg _ _ _ hl fun i f v h1 h2 => ih i f v h1 h2 (looseL_mem hp i f h1) A'
  | tup β fs vs hl _ ih => exact fun hp A' => .tup _ _ _ hl fun i f v h1 h2 => ih i f v h1 h2 (looseL_mem hp i f h1) A'
  | fn => exact fun hp => by cases hp
  | nils => exact fun _ _ => .nils _ _
  | slcZ => exact fun hp => by cases hp
  | slc => exact fun hp => by cases hp
  | box => exact fun hp => by cases hp
  | ptr β k wd i j b hk => exact fun _ _ => .ptr _ _ _ _ _ _ hk
  | oslZ => exact fun _ _ => .oslZ _ _ _ _ _
  | osl β k wd i n b cap hk hc hs => exact fun _ _ => .osl _ _ _ _ _ _ _ hk hc hs

def Blk.loose : Blk → Prop
  | .dead => True
  | .vars cs => SV.loose.looseL cs = true
  | .arr _ xs => ∀ x ∈ xs, SV.loose.looseL x = true

theorem BlkRel.loosely {w : World} {A : Nat → Prop} {β : List (Option Nat)} {o : Option Nat} {blk : Blk} (h : BlkRel w A β o blk) (hl : blk.loose) (A' : Nat → Prop) : BlkRel w A' β o blk := by
  cases o with
  | none => trivial
  | some b =>
    cases blk with
    | dead => trivial
    | vars cells =>
      obtain ⟨cs, T, h1, h2, h3⟩ := h
      exact ⟨cs, T, h1, h2, fun j c v h4 h5 => (h3 j c v h4 h5).loosely (looseL_mem hl j c h4) A'⟩
    | arr wd xs =>
      obtain ⟨cs, T, h1, h2, h3⟩ := h
      refine ⟨cs, T, h1, h2, fun i x hx => ⟨(h3 i x hx).1, fun j c hc => ?_⟩⟩
      obtain ⟨v, h4, h5⟩ := (h3 i x hx).2 j c hc
      exact ⟨v, h4, h5.loosely (looseL_mem (hl x (List.mem_of_getElem? hx)) j c hc) A'⟩

end Go.Proofs.Ytefciekodhpefaa
