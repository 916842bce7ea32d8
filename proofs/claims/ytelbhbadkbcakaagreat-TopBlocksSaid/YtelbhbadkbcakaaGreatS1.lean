/- Values as a reader sees them: what a value of Go stands for in a world, and that it stays so. The walk's own language: what a function's code comes to, and what is to be shown of it. What is shown of an operation that turns nothing is what it does. What is shown of an operation that turns nothing is what it does: all of them. What is shown of an operation that turns nothing is what it does: the operations one by one. What is shown of an operation that turns nothing is what it does: all of them. -/
import Derived.Below
import Derived.WalkKit
import Derived.CallsIn
import Derived.OrdersIn
import Derived.StillTail
import Derived.RangeFuncOwn
import Derived.RangeFuncLeaves
import Derived.Laws.Tables
namespace Go.Proofs.YtelbhbadkbcakaaGreat
section
open Go.RowKit
inductive SV where
  | any
  | int (k : IntKind) (x : Int)
  | bool (b : Bool)
  | str (s : List UInt8)
  | agg (fs : List SV)
  | tup (fs : List SV)
  | fn (f : FuncId) (caps : List SV)
  | nils
  | slc (wd : Nat) (xs : List (List SV))
  | box (cells : List SV) (j : Nat)
  | mth (f : FuncId) (x : SV)
  | ptr (k wd i j : Nat)
  | osl (k wd i n : Nat)
  | raw (v : Value)
  | anyb
  deriving Inhabited
structure Mem (w : World) (A : Nat -> Prop) (b off wd : Nat) (xs : List (List SV)) (vs : Nat -> Value) : Prop where
  blk : ∃ (cs : Array Value) (T : TypeId) (fr : Nat × Nat),w.heap[b]? = some (.cells cs T fr) /\ ∀ (i : Nat) (x : List SV) (j : Nat),xs[i]? = some x -> j < wd -> cs[off + i * wd + j]? = some (vs (off + i * wd + j))
  away : ¬ A b
  len : ∀ (i : Nat) (x : List SV),xs[i]? = some x -> x.length = wd
inductive Rep (w : World) (A : Nat -> Prop) : List (Option Nat) -> SV -> Value -> Prop
  | any (β) (v : Value) : Rep w A β .any v
  | int (β) (k : IntKind) (x : Int) : Rep w A β (.int k x) (.int k x)
  | bool (β) (b : Bool) : Rep w A β (.bool b) (.bool b)
  | str (β) (s : List UInt8) : Rep w A β (.str s) (.string ⟨s.toArray⟩)
  | raw (β) (v : Value) : Rep w A β (.raw v) v
  | anyb (β) (b : Bool) : Rep w A β .anyb (.bool b)
  | agg (β) (fs : List SV) (vs : List Value) (hl : vs.length = fs.length) (h : ∀ (i : Nat) (f : SV) (v : Value),fs[i]? = some f -> vs[i]? = some v -> Rep w A β f v) : Rep w A β (.agg fs) (.agg vs.toArray)
  | tup (β) (fs : List SV) (vs : List Value) (hl : vs.length = fs.length) (h : ∀ (i : Nat) (f : SV) (v : Value),fs[i]? = some f -> vs[i]? = some v -> Rep w A β f v) : Rep w A β (.tup fs) (.tuple vs.toArray)
  | fn (β) (f : FuncId) (fs : List SV) (vs : List Value) (hl : vs.length = fs.length) (h : ∀ (i : Nat) (f : SV) (v : Value),fs[i]? = some f -> vs[i]? = some v -> Rep w A β f v) : Rep w A β (.fn f fs) (.func (.func f) #[] vs.toArray)
  | nils (β) (a : Option Addr) : Rep w A β .nils (.slice a 0 0)
  | slcZ (β) (wd : Nat) (a : Option Addr) : Rep w A β (.slc wd []) (.slice a 0 0)
  | slc (β) (wd : Nat) (xs : List (List SV)) (b off cap : Nat) (vs : Nat -> Value) (hm : Mem w A b off wd xs vs) (hc : xs.length <= cap)
      (h : ∀ (i : Nat) (x : List SV) (j : Nat) (c : SV),xs[i]? = some x -> x[j]? = some c -> Rep w A [] c (vs (off + i * wd + j))) : Rep w A β (.slc wd xs) (.slice (some ⟨b,off,none⟩) xs.length cap)
  | box (β) (cells : List SV) (j0 b off : Nat) (vs : Nat -> Value) (hm : Mem w A b off cells.length [cells] vs)
      (h : ∀ (j : Nat) (c : SV),cells[j]? = some c -> Rep w A [] c (vs (off + j))) : Rep w A β (.box cells j0) (.pointer (some ⟨b,off + j0,none⟩))
  | mth (β) (f : FuncId) (x : SV) (v : Value) (h : Rep w A [] x v) : Rep w A β (.mth f x) (.func (.func f) #[v] #[])
  | ptr (β) (k wd i j b : Nat) (hk : β[k]? = some (some b)) : Rep w A β (.ptr k wd i j) (.pointer (some ⟨b,i * wd + j,none⟩))
  | oslZ (β) (k wd i : Nat) (a : Option Addr) : Rep w A β (.osl k wd i 0) (.slice a 0 0)
  | osl (β) (k wd i n b cap : Nat) (hk : β[k]? = some (some b)) (hc : n <= cap) (hs : ∃ (cs : Array Value) (T : TypeId) (fr : Nat × Nat),w.heap[b]? = some (.cells cs T fr) /\ (i + cap) * wd <= cs.size) : Rep w A β (.osl k wd i n) (.slice (some ⟨b,i * wd,none⟩) n cap)
structure Belo (B : Nat) (w w' : World) : Prop where
  os : w'.os = w.os
  tape : w'.tape = w.tape
  output : w'.output = w.output
  drn : w.drawn <= w'.drawn
  size : w.heap.size <= w'.heap.size
  block : ∀ k,k < B -> w'.heap[k]? = w.heap[k]?
theorem Belo.low {B : Nat} {w w' : World} (h : Belo B w w') : Below B w w':=⟨h.os,h.tape,h.output,h.size,h.block⟩
theorem Belo.refl (B : Nat) (w : World) : Belo B w w:=⟨rfl,rfl,rfl,Nat.le_refl _,Nat.le_refl _,fun _ _=>rfl⟩
theorem Belo.trans {B : Nat} {a b c : World} (h : Belo B a b) (k : Belo B b c) : Belo B a c :=
  ⟨k.os.trans h.os,k.tape.trans h.tape,k.output.trans h.output,Nat.le_trans h.drn k.drn,Nat.le_trans h.size k.size,fun i hi=>(k.block i hi).trans (h.block i hi)⟩
theorem Belo.mono {B B' : Nat} {w w' : World} (h : Belo B w w') (hB : B' <= B) : Belo B' w w':=⟨h.os,h.tape,h.output,h.drn,h.size,fun k hk=>h.block k (Nat.lt_of_lt_of_le hk hB)⟩
theorem Belo.drew {B : Nat} {a w : World} (h : Belo B a w) : Belo B a w.drew:=⟨h.os,h.tape,h.output,Nat.le_trans h.drn (Nat.le_succ _),h.size,h.block⟩
theorem Belo.heap_alloc (w : World) (o : Obj) (k : Nat) (h : k < w.heap.size) : (w.alloc o).heap[k]? = w.heap[k]?:=Below.heap_alloc w o k h
theorem Belo.alloc {B : Nat} {a w : World} (h : Belo B a w) (hB : B <= w.heap.size) (o : Obj) : Belo B a (w.alloc o) :=
  h.trans ⟨rfl,rfl,rfl,Nat.le_refl _,by simp,fun k hk=>Below.heap_alloc _ _ _ (by omega)⟩
structure Stp (A : Nat -> Prop) (w w' : World) : Prop where
  os : w'.os = w.os
  tape : w'.tape = w.tape
  output : w'.output = w.output
  drn : w.drawn <= w'.drawn
  size : w.heap.size <= w'.heap.size
  keep : ∀ b,b < w.heap.size -> ¬ A b -> w'.heap[b]? = w.heap[b]?
  shp : ∀ (b : Nat) (cs : Array Value) (T : TypeId) (fr : Nat × Nat),w.heap[b]? = some (.cells cs T fr) -> ∃ (cs' : Array Value) (fr' : Nat × Nat),w'.heap[b]? = some (.cells cs' T fr') /\ cs'.size = cs.size
theorem heap_lt {w : World} {b : Nat} {o : Obj} (h : w.heap[b]? = some o) : b < w.heap.size:=(Array.getElem?_eq_some_iff.1 h).1
theorem Stp.refl (A : Nat -> Prop) (w : World) : Stp A w w:=⟨rfl,rfl,rfl,Nat.le_refl _,Nat.le_refl _,fun _ _ _=>rfl,fun _ cs _ fr h=>⟨cs,fr,h,rfl⟩⟩
theorem Stp.trans {A A' : Nat -> Prop} {w w1 w2 : World} (h : Stp A w w1) (k : Stp A' w1 w2) (hA : ∀ b,b < w.heap.size -> A' b -> A b) : Stp A w w2 :=
  ⟨k.os.trans h.os,k.tape.trans h.tape,k.output.trans h.output,Nat.le_trans h.drn k.drn,Nat.le_trans h.size k.size,fun b hb hn=>(k.keep b (Nat.lt_of_lt_of_le hb h.size) fun ha=>hn (hA b hb ha)).trans (h.keep b hb hn),fun b cs T fr hc=>by
    obtain ⟨cs1,fr1,h1,e1⟩:=h.shp b cs T fr hc
    obtain ⟨cs2,fr2,h2,e2⟩:=k.shp b cs1 T fr1 h1
    exact ⟨cs2,fr2,h2,e2.trans e1⟩⟩
theorem Stp.below {A : Nat -> Prop} {w w' : World} (h : Belo w.heap.size w w') : Stp A w w' :=
  ⟨h.os,h.tape,h.output,h.drn,h.size,fun b hb _=>h.block b hb,fun b cs T fr hc=>⟨cs,fr,by rw [h.block b (heap_lt hc)]; exact hc,rfl⟩⟩
theorem Mem.mono {w w' : World} {A A' : Nat -> Prop} {b off wd : Nat} {xs : List (List SV)} {vs : Nat -> Value} (h : Mem w A b off wd xs vs) (s : Stp A w w')
    (hA : ∀ b,b < w.heap.size -> A' b -> A b) : Mem w' A' b off wd xs vs:=by
  obtain ⟨⟨cs,T,fr,hb,hc⟩,haw,hl⟩:=h
  have hlt:=heap_lt hb
  exact ⟨⟨cs,T,fr,by rw [s.keep b hlt haw]; exact hb,hc⟩,fun ha=>haw (hA b hlt ha),hl⟩
theorem Rep.mono {w w' : World} {A A' : Nat -> Prop} (s : Stp A w w') (hA : ∀ b,b < w.heap.size -> A' b -> A b) {β : List (Option Nat)} {x : SV} {v : Value} (h : Rep w A β x v) : Rep w' A' β x v:=by
  induction h with
  | any β v=>exact .any _ _
  | int=>exact .int _ _ _
  | bool=>exact .bool _ _
  | str=>exact .str _ _
  | raw=>exact .raw _ _
  | anyb=>exact .anyb _ _
  | agg β fs vs hl _ ih=>exact .agg _ _ _ hl ih
  | tup β fs vs hl _ ih=>exact .tup _ _ _ hl ih
  | fn β f fs vs hl _ ih=>exact .fn _ _ _ _ hl ih
  | nils=>exact .nils _ _
  | slcZ=>exact .slcZ _ _ _
  | slc β wd xs b off cap vs hm hc _ ih=>exact .slc _ _ _ _ _ _ vs (hm.mono s hA) hc ih
  | box β cells j0 b off vs hm _ ih=>exact .box _ _ _ _ _ vs (hm.mono s hA) ih
  | mth β f x v _ ih=>exact .mth _ _ _ _ ih
  | ptr β k wd i j b hk=>exact .ptr _ _ _ _ _ _ hk
  | oslZ=>exact .oslZ _ _ _ _ _
  | osl β k wd i n b cap hk hc hs =>
    obtain ⟨cs,T,fr,hb,hsz⟩:=hs
    obtain ⟨cs',fr',hb',e⟩:=s.shp b cs T fr hb
    exact .osl _ _ _ _ _ _ _ hk hc ⟨cs',T,fr',hb',by rw [e]; exact hsz⟩
theorem Rep.more {w : World} {A : Nat -> Prop} {β : List (Option Nat)} {x : SV} {v : Value} (h : Rep w A β x v) : ∀ γ : List (Option Nat),(∀ (k b : Nat),β[k]? = some (some b) -> γ[k]? = some (some b)) -> Rep w A γ x v:=by
  induction h with
  | any β v=>exact fun _ _=>.any _ _
  | int=>exact fun _ _=>.int _ _ _
  | bool=>exact fun _ _=>.bool _ _
  | str=>exact fun _ _=>.str _ _
  | raw=>exact fun _ _=>.raw _ _
  | anyb=>exact fun _ _=>.anyb _ _
  | agg β fs vs hl _ ih=>exact fun γ hg=>.agg _ _ _ hl fun i f v h1 h2=>ih i f v h1 h2 γ hg
  | tup β fs vs hl _ ih=>exact fun γ hg=>.tup _ _ _ hl fun i f v h1 h2=>ih i f v h1 h2 γ hg
  | fn β f fs vs hl _ ih=>exact fun γ hg=>.fn _ _ _ _ hl fun i f v h1 h2=>ih i f v h1 h2 γ hg
  | nils=>exact fun _ _=>.nils _ _
  | slcZ=>exact fun _ _=>.slcZ _ _ _
  | slc β wd xs b off cap vs hm hc h _=>exact fun _ _=>.slc _ _ _ _ _ _ vs hm hc h
  | box β cells j0 b off vs hm h _=>exact fun _ _=>.box _ _ _ _ _ vs hm h
  | mth β f x v h _=>exact fun _ _=>.mth _ _ _ _ h
  | ptr β k wd i j b hk=>exact fun γ hg=>.ptr _ _ _ _ _ _ (hg _ _ hk)
  | oslZ=>exact fun _ _=>.oslZ _ _ _ _ _
  | osl β k wd i n b cap hk hc hs=>exact fun γ hg=>.osl _ _ _ _ _ _ _ (hg _ _ hk) hc hs
def SV.pure : SV -> Bool
  | .ptr .. | .osl ..=>false
  | .agg fs | .tup fs | .fn _ fs=>pureL fs
  | _=>true
where pureL : List SV -> Bool
  | []=>true
  | f::fs=>f.pure && pureL fs
theorem pureL_mem {fs : List SV} (h : SV.pure.pureL fs = true) : ∀ (i : Nat) (f : SV),fs[i]? = some f -> f.pure = true:=by
  induction fs with
  | nil=>intro i f hf; simp at hf
  | cons g fs ih =>
    simp only [SV.pure.pureL,Bool.and_eq_true] at h
    intro i f hf
    cases i with
    | zero=>simp at hf; exact hf ▸ h.1
    | succ i=>exact ih h.2 i f (by simpa using hf)
theorem Rep.purely {w : World} {A : Nat -> Prop} {β : List (Option Nat)} {x : SV} {v : Value} (h : Rep w A β x v) : x.pure = true -> ∀ γ,Rep w A γ x v:=by
  induction h with
  | any β v=>exact fun _ _=>.any _ _
  | int=>exact fun _ _=>.int _ _ _
  | bool=>exact fun _ _=>.bool _ _
  | str=>exact fun _ _=>.str _ _
  | raw=>exact fun _ _=>.raw _ _
  | anyb=>exact fun _ _=>.anyb _ _
  | agg β fs vs hl _ ih=>exact fun hp γ=>.agg _ _ _ hl fun i f v h1 h2=>ih i f v h1 h2 (pureL_mem hp i f h1) γ
  | tup β fs vs hl _ ih=>exact fun hp γ=>.tup _ _ _ hl fun i f v h1 h2=>ih i f v h1 h2 (pureL_mem hp i f h1) γ
  | fn β f fs vs hl _ ih=>exact fun hp γ=>.fn _ _ _ _ hl fun i f v h1 h2=>ih i f v h1 h2 (pureL_mem hp i f h1) γ
  | nils=>exact fun _ _=>.nils _ _
  | slcZ=>exact fun _ _=>.slcZ _ _ _
  | slc β wd xs b off cap vs hm hc h _=>exact fun _ _=>.slc _ _ _ _ _ _ vs hm hc h
  | box β cells j0 b off vs hm h _=>exact fun _ _=>.box _ _ _ _ _ vs hm h
  | mth β f x v h _=>exact fun _ _=>.mth _ _ _ _ h
  | ptr=>exact fun hp=>by cases hp
  | oslZ=>exact fun hp=>by cases hp
  | osl=>exact fun hp=>by cases hp
def SV.kill (k : Nat) : SV -> SV
  | .ptr k' wd i j=>if k' = k then .any else .ptr k' wd i j
  | .osl k' wd i n=>if k' = k then .any else .osl k' wd i n
  | .agg fs=>.agg (killL fs)
  | .tup fs=>.tup (killL fs)
  | .fn f fs=>.fn f (killL fs)
  | x=>x
where killL : List SV -> List SV
  | []=>[]
  | f::fs=>f.kill k::killL fs
theorem killL_get (k : Nat) : ∀ (fs : List SV) (i : Nat),(SV.kill.killL k fs)[i]? = (fs[i]?).map (SV.kill k)
  | [],i=>by simp [SV.kill.killL]
  | f::fs,0=>by simp [SV.kill.killL]
  | f::fs,i + 1=>by simp [SV.kill.killL,killL_get k fs i]
theorem killL_length (k : Nat) : ∀ fs : List SV,(SV.kill.killL k fs).length = fs.length
  | []=>rfl
  | f::fs=>by simp [SV.kill.killL,killL_length k fs]
theorem Rep.kill {w : World} {A : Nat -> Prop} {β : List (Option Nat)} {x : SV} {v : Value} (h : Rep w A β x v) (k : Nat) : ∀ γ : List (Option Nat),(∀ (j b : Nat),j ≠ k -> β[j]? = some (some b) -> γ[j]? = some (some b)) -> Rep w A γ (x.kill k) v:=by
  induction h with
  | any β v=>exact fun _ _=>.any _ _
  | int=>exact fun _ _=>.int _ _ _
  | bool=>exact fun _ _=>.bool _ _
  | str=>exact fun _ _=>.str _ _
  | raw=>exact fun _ _=>.raw _ _
  | anyb=>exact fun _ _=>.anyb _ _
  | agg β fs vs hl _ ih =>
    intro γ hg
    refine .agg _ _ _ (by rw [killL_length]; exact hl) fun i f v h1 h2=>?_
    rw [killL_get] at h1
    obtain ⟨f',hf',rfl⟩:=Option.map_eq_some_iff.1 h1
    exact ih i f' v hf' h2 γ hg
  | tup β fs vs hl _ ih =>
    intro γ hg
    refine .tup _ _ _ (by rw [killL_length]; exact hl) fun i f v h1 h2=>?_
    rw [killL_get] at h1
    obtain ⟨f',hf',rfl⟩:=Option.map_eq_some_iff.1 h1
    exact ih i f' v hf' h2 γ hg
  | fn β f fs vs hl _ ih =>
    intro γ hg
    refine .fn _ _ _ _ (by rw [killL_length]; exact hl) fun i f v h1 h2=>?_
    rw [killL_get] at h1
    obtain ⟨f',hf',rfl⟩:=Option.map_eq_some_iff.1 h1
    exact ih i f' v hf' h2 γ hg
  | nils=>exact fun _ _=>.nils _ _
  | slcZ=>exact fun _ _=>.slcZ _ _ _
  | slc β wd xs b off cap vs hm hc h _=>exact fun _ _=>.slc _ _ _ _ _ _ vs hm hc h
  | box β cells j0 b off vs hm h _=>exact fun _ _=>.box _ _ _ _ _ vs hm h
  | mth β f x v h _=>exact fun _ _=>.mth _ _ _ _ h
  | ptr β k' wd i j b hk =>
    intro γ hg
    simp only [SV.kill]; split
    . exact .any _ _
    . rename_i hne; exact .ptr _ _ _ _ _ _ (hg _ _ hne hk)
  | oslZ β k' wd i a =>
    intro γ hg
    simp only [SV.kill]; split
    . exact .any _ _
    . exact .oslZ _ _ _ _ _
  | osl β k' wd i n b cap hk hc hs =>
    intro γ hg
    simp only [SV.kill]; split
    . exact .any _ _
    . rename_i hne; exact .osl _ _ _ _ _ _ _ (hg _ _ hne hk) hc hs
/-! ### The walk's own blocks -/
inductive Blk where
  | dead
  | vars (cells : List SV)
  | arr (wd : Nat) (xs : List (List SV))
  | shut (wd : Nat) (xs : List (List SV))
  deriving Inhabited
def BlkRel (w : World) (A : Nat -> Prop) (β : List (Option Nat)) : Option Nat -> Blk -> Prop
  | none,_=>True
  | some _,.dead=>True
  | some _,.shut _ _=>True
  | some b,.vars cells=>∃ (cs : List Value) (T : TypeId),w.heap[b]? = some (.cells cs.toArray T (0,0)) /\ cs.length = cells.length /\ ∀ (j : Nat) (c : SV) (v : Value),cells[j]? = some c -> cs[j]? = some v -> Rep w A β c v
  | some b,.arr wd xs=>∃ (cs : List Value) (T : TypeId),w.heap[b]? = some (.cells cs.toArray T (0,0)) /\ xs.length * wd <= cs.length /\
      ∀ (i : Nat) (x : List SV),xs[i]? = some x -> x.length = wd /\ ∀ (j : Nat) (c : SV),x[j]? = some c -> ∃ v,cs[i * wd + j]? = some v /\ Rep w A [] c v
structure WRel (w : World) (A : Nat -> Prop) (β : List (Option Nat)) (H : List Blk) : Prop where
  len : β.length = H.length
  inj : ∀ (k k' b : Nat),β[k]? = some (some b) -> β[k']? = some (some b) -> k = k'
  own : ∀ (k b : Nat),β[k]? = some (some b) -> A b /\ b < w.heap.size
  blk : ∀ (k : Nat) (o : Option Nat) (blk : Blk),β[k]? = some o -> H[k]? = some blk -> BlkRel w A β o blk
structure WB (w : World) (A : Nat -> Prop) (β : List (Option Nat)) (H : List Blk) : Prop where
  blk : ∀ (k : Nat) (o : Option Nat) (blk : Blk),β[k]? = some o -> H[k]? = some blk -> BlkRel w A β o blk
theorem WRel.wb {w : World} {A : Nat -> Prop} {β : List (Option Nat)} {H : List Blk} (h : WRel w A β H) : WB w A β H:=⟨h.blk⟩
theorem WRel.nil (w : World) (A : Nat -> Prop) : WRel w A [] []:=⟨rfl,fun k k' b h=>by simp at h,fun k b h=>by simp at h,fun k o blk h=>by simp at h⟩
def Blk.tells : Blk -> Bool
  | .vars _ | .arr _ _=>true
  | _=>false
theorem BlkRel.keep {w w' : World} {A A' : Nat -> Prop} {β γ : List (Option Nat)} {o : Option Nat} {blk : Blk} (h : BlkRel w A β o blk) (s : Stp A w w') (hA : ∀ b,b < w.heap.size -> A' b -> A b)
    (hg : ∀ (k b : Nat),β[k]? = some (some b) -> γ[k]? = some (some b)) (hb : ∀ b,o = some b -> w'.heap[b]? = w.heap[b]?) : BlkRel w' A' γ o blk:=by
  cases o with
  | none=>trivial
  | some b =>
    cases blk with
    | dead=>trivial
    | shut=>trivial
    | vars cells =>
      obtain ⟨cs,T,h1,h2,h3⟩:=h
      exact ⟨cs,T,by rw [hb b rfl]; exact h1,h2,fun j c v h4 h5=>((h3 j c v h4 h5).mono s hA).more γ hg⟩
    | arr wd xs =>
      obtain ⟨cs,T,h1,h2,h3⟩:=h
      exact ⟨cs,T,by rw [hb b rfl]; exact h1,h2,fun i x hx=>⟨(h3 i x hx).1,fun j c hc=>by
        obtain ⟨v,h4,h5⟩:=(h3 i x hx).2 j c hc
        exact ⟨v,h4,h5.mono s hA⟩⟩⟩
def Blk.kill (k : Nat) : Blk -> Blk
  | .vars cells=>.vars (SV.kill.killL k cells)
  | b=>b
theorem BlkRel.killed {w w' : World} {A A' : Nat -> Prop} {β γ : List (Option Nat)} {o : Option Nat} {blk : Blk} (h : BlkRel w A β o blk) (s : Stp A w w') (hA : ∀ b,b < w.heap.size -> A' b -> A b) (k : Nat)
    (hg : ∀ (j b : Nat),j ≠ k -> β[j]? = some (some b) -> γ[j]? = some (some b)) (hb : ∀ b,o = some b -> w'.heap[b]? = w.heap[b]?) : BlkRel w' A' γ o (blk.kill k):=by
  cases o with
  | none=>trivial
  | some b =>
    cases blk with
    | dead=>trivial
    | shut=>trivial
    | vars cells =>
      obtain ⟨cs,T,h1,h2,h3⟩:=h
      refine ⟨cs,T,by rw [hb b rfl]; exact h1,by rw [killL_length]; exact h2,fun j c v h4 h5=>?_⟩
      rw [killL_get] at h4
      obtain ⟨c',hc',rfl⟩:=Option.map_eq_some_iff.1 h4
      exact ((h3 j c' v hc' h5).mono s hA).kill k γ hg
    | arr wd xs =>
      obtain ⟨cs,T,h1,h2,h3⟩:=h
      exact ⟨cs,T,by rw [hb b rfl]; exact h1,h2,fun i x hx=>⟨(h3 i x hx).1,fun j c hc=>by
        obtain ⟨v,h4,h5⟩:=(h3 i x hx).2 j c hc
        exact ⟨v,h4,h5.mono s hA⟩⟩⟩
theorem WRel.step {w w' : World} {A : Nat -> Prop} {β : List (Option Nat)} {H : List Blk} (h : WRel w A β H) (s : Stp A w w') (hk : ∀ (k b : Nat),β[k]? = some (some b) -> w'.heap[b]? = w.heap[b]?) : WRel w' A β H :=
  ⟨h.len,h.inj,fun k b hb=>⟨(h.own k b hb).1,Nat.lt_of_lt_of_le (h.own k b hb).2 s.size⟩,fun k o blk ho hb=>(h.blk k o blk ho hb).keep s (fun _ _ h=>h) (fun _ _ h=>h) (fun b e=>hk k b (by rw [ho,e]))⟩
/-! ### One's own blocks are never written again -/
def frzs (f : SV -> (SV -> Prop) -> Prop) : List SV -> (List SV -> Prop) -> Prop
  | [],K=>K []
  | x::xs,K=>f x fun y=>frzs f xs fun ys=>K (y::ys)
def frzK : Nat → List Blk → SV → (SV → Prop) → Prop
  | 0,_,x,K=>SV.pure x = true /\ K x
  | n + 1, H, x, K => match x with
    | .ptr k wd i j => match H[k]? with
      | some (.vars cells)=>frzs (frzK n H) cells fun cs=>K (.box cs (i * wd + j))
      | _=>False
    | .osl k wd i m => match H[k]? with
      | some (.arr wd' xs)=>wd' = wd /\ i + m <= xs.length /\ K (.slc wd ((xs.drop i).take m))
      | _=>False
    | .agg fs=>frzs (frzK n H) fs fun fs=>K (.agg fs)
    | .tup fs=>frzs (frzK n H) fs fun fs=>K (.tup fs)
    | .fn g fs=>frzs (frzK n H) fs fun fs=>K (.fn g fs)
    | .any=>K .any
    | .int k x=>K (.int k x)
    | .bool b=>K (.bool b)
    | .str s=>K (.str s)
    | .nils=>K .nils
    | .slc wd xs=>K (.slc wd xs)
    | .box cells j=>K (.box cells j)
    | .mth f x=>K (.mth f x)
    | .raw v=>K (.raw v)
    | .anyb=>K .anyb
section
variable {H : List Blk}
def Frz (H : List Blk) (x y : SV) : Prop:=∀ (w : World) (A A1 : Nat -> Prop) (β : List (Option Nat)) (v : Value),WB w A β H -> (∀ b,A1 b -> A b) -> (∀ (k b : Nat) (blk : Blk),β[k]? = some (some b) -> H[k]? = some blk -> blk.tells = true -> ¬ A1 b) -> Rep w A β x v -> Rep w A1 [] y v
theorem frzs_sound {f : SV -> (SV -> Prop) -> Prop} (hf : ∀ x K,f x K -> ∃ y,K y /\ Frz H x y) : ∀ (xs : List SV) (K : List SV -> Prop),frzs f xs K -> ∃ ys,K ys /\ ys.length = xs.length /\ ∀ (i : Nat) (x y : SV),xs[i]? = some x -> ys[i]? = some y -> Frz H x y
  | [],K,h=>⟨[],h,rfl,fun i x y h=>by simp at h⟩
  | x :: xs, K, h => by
    obtain ⟨y,h,hy⟩:=hf x _ h
    obtain ⟨ys,hK,hl,hys⟩:=frzs_sound hf xs _ h
    refine ⟨y::ys,hK,by simp [hl],fun i x' y' h1 h2=>?_⟩
    cases i with
    | zero=>simp at h1 h2; subst h1 h2; exact hy
    | succ i=>exact hys i x' y' (by simpa using h1) (by simpa using h2)
theorem frz_list {xs ys : List SV} {vs : List Value} {w : World} {A A1 : Nat -> Prop} {β : List (Option Nat)} (hl : ys.length = xs.length) (hys : ∀ (i : Nat) (x y : SV),xs[i]? = some x -> ys[i]? = some y -> Frz H x y) (hW : WB w A β H) (hA : ∀ b,A1 b -> A b) (ho : ∀ (k b : Nat) (blk : Blk),β[k]? = some (some b) -> H[k]? = some blk -> blk.tells = true -> ¬ A1 b)
    (hr : ∀ (i : Nat) (f : SV) (v : Value),xs[i]? = some f -> vs[i]? = some v -> Rep w A β f v) : ∀ (i : Nat) (f : SV) (v : Value),ys[i]? = some f -> vs[i]? = some v -> Rep w A1 [] f v:=by
  intro i f v h1 h2
  have hi : i < xs.length:=by rw [<- hl]; exact (List.getElem?_eq_some_iff.1 h1).1
  exact hys i _ f (List.getElem?_eq_getElem hi) h1 w A A1 β v hW hA ho (hr i _ v (List.getElem?_eq_getElem hi) h2)
theorem frzK_sound : ∀ (n : Nat) (x : SV) (K : SV -> Prop),frzK n H x K -> ∃ y,K y /\ Frz H x y
  | 0,x,K,h=>⟨x,h.2,fun w A A1 β v _ hA _ hr=>(hr.purely h.1 []).mono (Stp.refl _ _) fun b _ hb=>hA b hb⟩
  | n + 1, x, K, h => by
    have pure : ∀ y,y.pure = true -> K y -> x = y -> ∃ y,K y /\ Frz H x y:=fun y hp hK e=>⟨y,hK,fun w A A1 β v _ hA _ hr=>by
      subst e; exact (hr.purely hp []).mono (Stp.refl _ _) fun b _ hb=>hA b hb⟩
    cases x with
    | ptr k wd i j =>
      simp only [frzK] at h
      split at h
      . rename_i cells hk
        obtain ⟨ys,hK,hl,hys⟩:=frzs_sound (frzK_sound n) cells _ h
        refine ⟨_,hK,fun w A A1 β v hW hA ho hr=>?_⟩
        cases hr
        rename_i b hb
        obtain ⟨cs,T,h1,h2,h3⟩:=hW.blk k (some b) _ hb hk
        have hz:=frz_list hl hys hW hA ho h3
        have:=Rep.box (w:=w) (A:=A1) [] ys (i * wd + j) b 0 (fun k=>(cs[k]?).getD undef) ⟨⟨cs.toArray,T,_,h1,fun i' x j' hx hj'=>?_⟩,ho k b _ hb hk rfl,fun i' x hx=>?_⟩ fun j' c hc=>?_
        . simpa using this
        . cases i' with
          | zero =>
            have : j' < cs.length:=by omega
            simp [this]
          | succ i'=>simp at hx
        . cases i' with
          | zero=>simp at hx; rw [<- hx]
          | succ i'=>simp at hx
        . have hj' : j' < cs.length:=by rw [h2,<- hl]; exact (List.getElem?_eq_some_iff.1 hc).1
          have:=hz j' c cs[j'] hc (by simp [hj'])
          simpa [hj'] using this
      . exact h.elim
    | osl k wd i m =>
      simp only [frzK] at h
      split at h
      . rename_i wd' xs hk
        obtain ⟨rfl,him,hK⟩:=h
        refine ⟨_,hK,fun w A A1 β v hW hA ho hr=>?_⟩
        have hlen : ((xs.drop i).take m).length = m:=by simp; omega
        cases hr with
        | oslZ=>exact .slcZ _ _ _
        | osl _ _ _ _ _ b cap hb hc hs =>
          obtain ⟨cs,T,h1,h2,h3⟩:=hW.blk k (some b) _ hb hk
          have hget : ∀ (i' : Nat) (x : List SV),((xs.drop i).take m)[i']? = some x -> xs[i + i']? = some x:=fun i' x hx=>by
            have hi' : i' < m:=by rw [<- hlen]; exact (List.getElem?_eq_some_iff.1 hx).1
            rw [List.getElem?_take_of_lt hi',List.getElem?_drop] at hx
            exact hx
          have hidx : ∀ i' j',(i + i') * wd' + j' = i * wd' + i' * wd' + j':=fun i' j'=>by rw [Nat.add_mul]
          have:=Rep.slc (w:=w) (A:=A1) [] wd' ((xs.drop i).take m) b (i * wd') cap (fun k=>(cs[k]?).getD undef) ⟨⟨cs.toArray,T,_,h1,fun i' x j' hx hj'=>?_⟩,ho k b _ hb hk rfl,fun i' x hx=>(h3 _ x (hget i' x hx)).1⟩ (by rw [hlen]; exact hc) fun i' x j' c hx hc'=>?_
          . rwa [hlen] at this
          . obtain ⟨h4,h5⟩:=h3 _ x (hget i' x hx)
            obtain ⟨u,h6,_⟩:=h5 j' (x[j']'(by omega)) (by simp)
            rw [hidx] at h6
            simp [h6]
          . obtain ⟨h4,h5⟩:=h3 _ x (hget i' x hx)
            obtain ⟨u,h6,h7⟩:=h5 j' c hc'
            rw [hidx] at h6
            rw [h6]
            exact h7.mono (Stp.refl _ _) fun b _ hb=>hA b hb
      . exact h.elim
    | agg fs =>
      obtain ⟨ys,hK,hl,hys⟩:=frzs_sound (frzK_sound n) fs _ h
      refine ⟨_,hK,fun w A A1 β v hW hA ho hr=>?_⟩
      cases hr
      rename_i vs hl' hr
      exact .agg _ _ _ (by rw [hl]; exact hl') (frz_list hl hys hW hA ho hr)
    | tup fs =>
      obtain ⟨ys,hK,hl,hys⟩:=frzs_sound (frzK_sound n) fs _ h
      refine ⟨_,hK,fun w A A1 β v hW hA ho hr=>?_⟩
      cases hr
      rename_i vs hl' hr
      exact .tup _ _ _ (by rw [hl]; exact hl') (frz_list hl hys hW hA ho hr)
    | fn g fs =>
      obtain ⟨ys,hK,hl,hys⟩:=frzs_sound (frzK_sound n) fs _ h
      refine ⟨_,hK,fun w A A1 β v hW hA ho hr=>?_⟩
      cases hr
      rename_i vs hl' hr
      exact .fn _ _ _ _ (by rw [hl]; exact hl') (frz_list hl hys hW hA ho hr)
    | any=>exact pure _ rfl h rfl
    | int=>exact pure _ rfl h rfl
    | bool=>exact pure _ rfl h rfl
    | str=>exact pure _ rfl h rfl
    | nils=>exact pure _ rfl h rfl
    | slc=>exact pure _ rfl h rfl
    | box=>exact pure _ rfl h rfl
    | mth=>exact pure _ rfl h rfl
    | raw=>exact pure _ rfl h rfl
    | anyb=>exact pure _ rfl h rfl
end
def SV.loose : SV -> Bool
  | .slc .. | .box .. | .fn .. | .mth ..=>false
  | .agg fs | .tup fs=>looseL fs
  | _=>true
where looseL : List SV -> Bool
  | []=>true
  | f::fs=>f.loose && looseL fs
theorem looseL_mem {fs : List SV} (h : SV.loose.looseL fs = true) : ∀ (i : Nat) (f : SV),fs[i]? = some f -> f.loose = true:=by
  induction fs with
  | nil=>intro i f hf; simp at hf
  | cons g fs ih =>
    simp only [SV.loose.looseL,Bool.and_eq_true] at h
    intro i f hf
    cases i with
    | zero=>simp at hf; exact hf ▸ h.1
    | succ i=>exact ih h.2 i f (by simpa using hf)
theorem Rep.loosely {w : World} {A : Nat -> Prop} {β : List (Option Nat)} {x : SV} {v : Value} (h : Rep w A β x v) : x.loose = true -> ∀ A',Rep w A' β x v:=by
  induction h with
  | any β v=>exact fun _ _=>.any _ _
  | int=>exact fun _ _=>.int _ _ _
  | bool=>exact fun _ _=>.bool _ _
  | str=>exact fun _ _=>.str _ _
  | raw=>exact fun _ _=>.raw _ _
  | anyb=>exact fun _ _=>.anyb _ _
  | agg β fs vs hl _ ih=>exact fun hp A'=>.agg _ _ _ hl fun i f v h1 h2=>ih i f v h1 h2 (looseL_mem hp i f h1) A'
  | tup β fs vs hl _ ih=>exact fun hp A'=>.tup _ _ _ hl fun i f v h1 h2=>ih i f v h1 h2 (looseL_mem hp i f h1) A'
  | fn=>exact fun hp=>by cases hp
  | nils=>exact fun _ _=>.nils _ _
  | slcZ=>exact fun hp=>by cases hp
  | slc=>exact fun hp=>by cases hp
  | box=>exact fun hp=>by cases hp
  | mth=>exact fun hp=>by cases hp
  | ptr β k wd i j b hk=>exact fun _ _=>.ptr _ _ _ _ _ _ hk
  | oslZ=>exact fun _ _=>.oslZ _ _ _ _ _
  | osl β k wd i n b cap hk hc hs=>exact fun _ _=>.osl _ _ _ _ _ _ _ hk hc hs
def Blk.loose : Blk -> Prop
  | .dead=>True
  | .shut _ _=>True
  | .vars cs=>SV.loose.looseL cs = true
  | .arr _ xs=>∀ x ∈ xs,SV.loose.looseL x = true
theorem BlkRel.loosely {w : World} {A : Nat -> Prop} {β : List (Option Nat)} {o : Option Nat} {blk : Blk} (h : BlkRel w A β o blk) (hl : blk.loose) (A' : Nat -> Prop) : BlkRel w A' β o blk:=by
  cases o with
  | none=>trivial
  | some b =>
    cases blk with
    | dead=>trivial
    | shut=>trivial
    | vars cells =>
      obtain ⟨cs,T,h1,h2,h3⟩:=h
      exact ⟨cs,T,h1,h2,fun j c v h4 h5=>(h3 j c v h4 h5).loosely (looseL_mem hl j c h4) A'⟩
    | arr wd xs =>
      obtain ⟨cs,T,h1,h2,h3⟩:=h
      refine ⟨cs,T,h1,h2,fun i x hx=>⟨(h3 i x hx).1,fun j c hc=>?_⟩⟩
      obtain ⟨v,h4,h5⟩:=(h3 i x hx).2 j c hc
      exact ⟨v,h4,h5.loosely (looseL_mem (hl x (List.mem_of_getElem? hx)) j c hc) A'⟩
end
section
open Go.RowKit
inductive Opd where
  | t (n : Nat)
  | c (s : SV)
  deriving Inhabited
inductive IOp where
  | mv (x : Opd)
  | pick (c a b : Opd)
  | ck (x : Opd)
  | bin (o : BinOp) (x y : Opd)
  | beq (neg : Bool) (x y : Opd)
  | seq (neg : Bool) (x y : Opd)
  | eqv (neg : Bool) (t : TypeId) (x y : Opd)
  | isn (neg : Bool) (x : Opd)
  | un (o : UnOp) (x : Opd)
  | cv (k : IntKind) (x : Opd)
  | fn (f : FuncId) (caps : List Opd)
  | bld (z : List SV) (parts : List (Nat × Nat × Opd))
  | bsl (len wd : Nat) (z : List SV) (parts : List (Nat × Opd))
  | ld (s : Nat) (ag : Bool) (x : Opd)
  | fa (off : Nat) (x : Opd)
  | fd (off s : Nat) (ag : Bool) (x : Opd)
  | ia (wd : Nat) (x i : Opd)
  | iaA (n wd : Nat) (x i : Opd)
  | ix (n wd : Nat) (ag : Bool) (x i : Opd)
  | ex (i : Nat) (x : Opd)
  | ln (x : Opd)
  | lnA (n : Nat) (x : Opd)
  | sl (wd : Nat) (x : Opd) (lo hi mx : Option Opd)
  | mm (mx : Bool) (xs : List Opd)
  | call (f : Opd) (args : List Opd)
  | al (z : List SV)
  | bx (x : Opd)
  | mk (wd bytes : Nat) (z : List SV) (l c : Opd)
  | st (s : Nat) (x v : Opd)
  | ap (wd bytes : Nat) (x y : Opd)
  | cp (wd : Nat) (x y : Opd)
  | clr (wd : Nat) (z : List SV) (x : Opd)
  | oth (o : Oper)
  deriving Inhabited
structure Ins where
  dst : Option Nat
  op : IOp
  guard : Option (Nat × Bool)
  deriving Inhabited
inductive IR where
  | skip
  | reg (ops : List Ins)
  | draw (hd tl : List Ins)
  | drawL (hd lt mid tl : List Ins)
  | seq (a b : IR)
  | cond (c : Opd) (a b : IR)
  | block (id : Nat) (a : IR)
  | loop (a : IR)
  | exit (id : Nat)
  | ret
  | rng (f : Opd) (ps : List Nat) (assign body : IR)
  deriving Inhabited
/-! ### From the code -/
def ofVal1 : Value -> SV
  | .int k n=>.int k n
  | .bool b=>.bool b
  | .string s=>.str s.data.toList
  | .slice none 0 0=>.nils
  | v=>.raw v
def ofVal : Value -> SV
  | .agg cs=>.agg (cs.toList.map ofVal1)
  | .tuple vs=>.tup (vs.toList.map ofVal1)
  | v=>ofVal1 v
def cOpd : Operand -> Opd
  | .tmp t=>.t t
  | .const v=>.c (ofVal v)
  | .global g=>.c (.raw (.pointer (some ⟨g,0,none⟩)))
  | .func f=>.c (.fn f [])
def bOf : List Opd -> Option Opd
  | [.c (.tup []),x]=>some x
  | _=>none
section
variable (P : Program)
def szOf (t : TypeId) : Option Nat:=(P.info? t).map (·.size)
def zeroOf (t : TypeId) : Option (List SV):=((P.info? t).bind (·.zero)).map fun v=>v.cells.toList.map ofVal1
def aggOf (t : TypeId) : Option Bool:=(P.underlying t).map fun | .struct _=>true | .array _ _=>true | _=>false
def partOf (places : List (Nat × Nat)) (p : Nat × Operand) : Option (Nat × Nat × Opd):=(places[p.1]?).map fun q=>(q.1,q.2,cOpd p.2)
def placesOf (fields : Array Field) : Option (List (Nat × Nat)):=fields.toList.mapM (fun f=>(P.info? f.type).map fun i=>(f.offset,i.size))
def isNilS : Operand -> Bool
  | .const (.slice none 0 0)=>true
  | _=>false
def cop (o : Oper) : Option IOp :=
  match o.op with
  | .move x | .assign x=>some (.mv (cOpd x))
  | .pick c a b=>some (.pick (cOpd c) (cOpd a) (cOpd b))
  | .alloc e=>(zeroOf P e).map .al
  | .box _ x=>some (.bx (cOpd x))
  | .build t parts =>
    match zeroOf P t,P.underlying t with
    | some z, some (.struct fields) =>
      match placesOf P fields with
      | some places=>(parts.toList.mapM (partOf places)).map (.bld z ·)
      | none=>none
    | some z,some (.array _ e)=>(szOf P e).map fun s=>.bld z (parts.toList.map fun (i,x)=>(i * s,s,cOpd x))
    | _,_=>none
  | .buildSlice t len parts =>
    match P.underlying t with
    | some (.slice e) =>
      match szOf P e,zeroOf P e with
      | some s,some z=>if z.length = s /\ 0 < s /\ len * s <= 1000 then some (.bsl len s z (parts.toList.map fun (i,x)=>(i,cOpd x))) else none
      | _,_=>none
    | _=>none
  | .load t a =>
    match szOf P t,aggOf P t with
    | some s,some ag=>some (.ld s ag (cOpd a))
    | _,_=>none
  | .store t a v=>(szOf P t).map fun s=>.st s (cOpd a) (cOpd v)
  | .nilCheck x=>some (.ck (cOpd x))
  | .binOp op t x y _ =>
    match op,P.underlying t with
    | .eql,some .bool=>some (.beq false (cOpd x) (cOpd y))
    | .neq,some .bool=>some (.beq true (cOpd x) (cOpd y))
    | .eql,some .string=>some (.seq false (cOpd x) (cOpd y))
    | .neq,some .string=>some (.seq true (cOpd x) (cOpd y))
    | .eql,some (.struct _) | .eql,some (.array _ _)=>some (.eqv false t (cOpd x) (cOpd y))
    | .neq,some (.struct _) | .neq,some (.array _ _)=>some (.eqv true t (cOpd x) (cOpd y))
    | .eql,some (.slice _)=>if isNilS y then some (.isn false (cOpd x)) else some (.oth o)
    | .neq,some (.slice _)=>if isNilS y then some (.isn true (cOpd x)) else some (.oth o)
    | op,some (.int _)=>some (.bin op (cOpd x) (cOpd y))
    | _,_=>some (.oth o)
  | .unOp op _ x=>some (.un op (cOpd x))
  | .convert s d x =>
    match P.underlying s,P.underlying d with
    | some _,some (.int k)=>some (.cv k (cOpd x))
    | _,_=>some (.oth o)
  | .makeFunc (.func f) first caps => match first.toList, bOf (caps.toList.map cOpd) with
    | [],none=>some (.fn f (caps.toList.map cOpd))
    | [x], _ => match caps.toList with
      | []=>some (.fn f [.c (.tup []),cOpd x])
      | _=>none
    | _,_=>none
  | .fieldAddr t x i =>
    match P.underlying t with
    | some (.struct fields) =>
      match fields[i]? with
      | some f=>(szOf P f.type).bind fun s=>if s = 0 then none else some (.fa f.offset (cOpd x))
      | none=>none
    | _=>none
  | .field t x i =>
    match P.underlying t with
    | some (.struct fields) =>
      match fields[i]? with
      | some f =>
        match szOf P f.type,aggOf P f.type with
        | some s,some ag=>some (.fd f.offset s ag (cOpd x))
        | _,_=>none
      | none=>none
    | _=>none
  | .indexAddr t x i =>
    match P.underlying t with
    | some (.slice e)=>(szOf P e).map fun s=>.ia s (cOpd x) (cOpd i)
    | some (.array n e)=>(szOf P e).map fun s=>.iaA n s (cOpd x) (cOpd i)
    | _=>none
  | .index t x i =>
    match P.underlying t with
    | some (.array n e) =>
      match szOf P e,aggOf P e with
      | some s,some ag=>some (.ix n s ag (cOpd x) (cOpd i))
      | _,_=>none
    | _=>some (.oth o)
  | .extract x i=>some (.ex i (cOpd x))
  | .makeSlice t l c =>
    match P.underlying t with
    | some (.slice e) =>
      match P.info? e,zeroOf P e with
      | some i,some z=>if z.length = i.size /\ 0 < i.size then some (.mk i.size i.bytes z (cOpd l) (cOpd c)) else none
      | _,_=>none
    | _=>none
  | .slice t x lo hi mx =>
    match P.underlying t with
    | some (.slice e)=>(szOf P e).map fun s=>.sl s (cOpd x) (lo.map cOpd) (hi.map cOpd) (mx.map cOpd)
    | _=>some (.oth o)
  | .call c =>
    match c.callee with
    | .value f=>some (.call (cOpd f) (c.args.toList.map cOpd))
    | .invoke _ _=>some (.oth o)
    | .builtin b =>
      match b,c.args.toList,c.argTypes.toList.map P.underlying with
      | .len,[x],[some (.slice _)]=>some (.ln (cOpd x))
      | .len,[x],[some (.array n _)]=>some (.lnA n (cOpd x))
      | .max,xs,_=>some (.mm true (xs.map cOpd))
      | .min,xs,_=>some (.mm false (xs.map cOpd))
      | .append, [x, y], [some (.slice e), some (.slice _)] =>
        match P.info? e,zeroOf P e with
        | some i,some z=>if z.length = i.size /\ 0 < i.size then some (.ap i.size i.bytes (cOpd x) (cOpd y)) else none
        | _,_=>none
      | .copy, [x, y], [some (.slice e), some (.slice _)] =>
        match szOf P e with
        | some s=>if 0 < s then some (.cp s (cOpd x) (cOpd y)) else none
        | none=>none
      | .clear, [x], [some (.slice e)] =>
        match zeroOf P e with
        | some z=>if 0 < z.length then some (.clr z.length z (cOpd x)) else none
        | none=>none
      | _,_,_=>some (.oth o)
  | .defer _=>none
  | _=>some (.oth o)
def guardOf (ops : Array Oper) (N : Nat) : Option (Nat × Bool) → Option (Option (Nat × Bool))
  | none=>some none
  | some (j, want) => match (ops[j]?).bind (·.dst) with
    | some t=>if t < N then some (some (t,want)) else none
    | none=>none
def cIns (ops : Array Oper) (N : Nat) (o : Oper) : Option Ins :=
  match cop P o,guardOf ops N o.guard with
  | some i,some g=>if o.dst.all (· < N) then some ⟨o.dst,i,g⟩ else none
  | _,_=>none
def IOp.still : IOp -> Bool
  | .st .. | .ap .. | .cp .. | .clr ..=>false
  | _=>true
def waitsOn (ops : Array Oper) (j i : Nat) : Bool :=
  match ops[j]? with
  | some oj=>oj.after.any fun e=>Region.binds .any e && e.on == i
  | none=>false
def chainFrom (ops : Array Oper) : Nat -> Nat
  | 0=>0
  | n + 1=>if waitsOn ops (n + 1) n then chainFrom ops n else n + 1
def sinkAt (ops : Array Oper) (n : Nat) : Bool:=(List.range n).all fun i=>(List.range (n - i)).any fun d=>waitsOn ops (i + 1 + d) i
def firstSink (ops : Array Oper) (top : Nat) : Nat -> Nat -> Nat
  | 0,_=>top
  | f + 1,n=>if sinkAt ops n then n else firstSink ops top f (n + 1)
def headLen (ops : Array Oper) (is : List Ins) : Nat :=
  let top:=(is.takeWhile fun i=>i.op.still).length
  let c:=chainFrom ops (is.length - 1)
  if c < top then firstSink ops top (top - c) c else top
def IOp.reads : IOp -> Bool
  | .mv .. | .pick .. | .ck .. | .bin .. | .beq .. | .un .. | .cv .. | .fn .. | .bld .. | .ld .. | .fa .. | .fd .. | .ia .. | .iaA .. | .ix .. | .ex .. | .ln .. | .lnA .. | .sl .. | .mm ..=>true
  | _=>false
def IOp.plain : IOp -> Bool
  | .st ..=>true
  | op=>op.reads
def IOp.amid : IOp -> Bool
  | .ap ..=>true
  | op=>op.plain
def forcedBy (ops : Array Oper) : Nat -> List Nat -> List Nat
  | 0,acc=>acc
  | i + 1,acc=>if acc.any fun j=>waitsOn ops j i then forcedBy ops i (i::acc) else forcedBy ops i acc
def lateAt (ops : Array Oper) (n : Nat) : List Nat :=
  let f:=forcedBy ops n [n]
  (List.range n).filter fun i=>!f.contains i
def lateOk (is : List Ins) (L : List Nat) : Bool:=L.all fun i=>match is[i]? with
  | some x=>x.op.reads && x.guard.isNone && x.dst.isSome
  | none=>false
def firstLate (ops : Array Oper) (is : List Ins) : Nat -> Nat -> Option (Nat × List Nat)
  | 0,_=>none
  | f + 1,n=>if lateOk is (lateAt ops n) then some (n,lateAt ops n) else firstLate ops is f (n + 1)
def lateEnd (ops : Array Oper) (L : List Nat) (m : Nat) : Nat → Nat → Nat
  | 0,_=>m
  | f + 1, t => let g := forcedBy ops t [t]
    if L.all fun i=>g.contains i then t else lateEnd ops L m f (t + 1)
def lateFrom (ops : Array Oper) (is : List Ins) (ok : IOp → Bool) (c : Nat) : Option (Nat × Nat × List Nat) :=
  match firstLate ops is (is.length - c) c with
  | some (n, L) =>
    let n1:=lateEnd ops L is.length (is.length - (n + 1)) (n + 1)
    if ((is.drop n).take (n1 - n)).all (fun x=>ok x.op && x.guard.isNone) then some (n,n1,L) else none
  | none=>none
def lateCut (ops : Array Oper) (is : List Ins) : Option (Nat × Nat × List Nat) :=
  let n:=headLen ops is
  if n == is.length || ((List.range n).all fun i=>(match is[i]? with | some ⟨_,.mv _,_⟩=>true | _=>false) || (List.range (n - i)).any fun d=>waitsOn ops (i + 1 + d) i) then none
  else
    let c:=chainFrom ops (is.length - 1)
    match lateFrom ops is IOp.plain c with
    | some x=>some x
    | none=>lateFrom ops is IOp.amid (max c (is.takeWhile fun i=>i.op.still).length)
def cutRegion (ops : Array Oper) (l : List Ins) : IR :=
  match lateCut ops l with
  | some (n,n1,L)=>.drawL (l.take n) (L.filterMap fun i=>l[i]?) ((l.drop n).take (n1 - n)) (l.drop n1)
  | none=>.draw (l.take (headLen ops l)) (l.drop (headLen ops l))
def comp (N : Nat) : Code → Option IR
  | .skip=>some .skip
  | .region _ ops false=>(ops.toList.mapM (cIns P ops N)).map .reg
  | .region _ ops true=>(ops.toList.mapM (cIns P ops N)).map (cutRegion ops)
  | .seq a b => match comp N a, comp N b with
    | some x,some y=>some (.seq x y)
    | _,_=>none
  | .cond c a b => match comp N a, comp N b with
    | some x,some y=>some (.cond (cOpd c) x y)
    | _,_=>none
  | .block id a=>(comp N a).map (.block id ·)
  | .loop a=>(comp N a).map .loop
  | .exit id=>some (.exit id)
  | .scope a=>comp N a
  | .label _=>some .skip
  | .goto _=>none
  | .ret=>some .ret
  | .refuse _=>none
  | .rangeFunc f ps assign body => match comp N assign, comp N body with
    | some x,some y=>if ps.all (· < N) then some (.rng (cOpd f) ps.toList x y) else none
    | _,_=>none
end
/-! ### What is to be shown -/
abbrev Env:=List (Nat × SV)
def look : Env -> Nat -> SV
  | [],_=>.any
  | (k,v)::e,t=>if k = t then v else look e t
def ev (e : Env) : Opd -> SV
  | .t n=>look e n
  | .c s=>s
def setE (e : Env) (d : Option Nat) (v : SV) : Env :=
  match d with
  | some d=>(d,v)::e
  | none=>e
def inK : IntKind -> Int -> Prop
  | .i64,z=>-9223372036854775808 <= z /\ z <= 9223372036854775807
  | .u64,z=>0 <= z /\ z <= 18446744073709551615
  | .i32,z=>-2147483648 <= z /\ z <= 2147483647
  | .u32,z=>0 <= z /\ z <= 4294967295
  | .i16,z=>-32768 <= z /\ z <= 32767
  | .u16,z=>0 <= z /\ z <= 65535
  | .i8,z=>-128 <= z /\ z <= 127
  | .u8,z=>0 <= z /\ z <= 255
def Ar (k : IntKind) (z z' : Int) : Prop:=(inK k z /\ z' = z) \/ z' = k.wrap z
def arK (k : IntKind) (z : Int) (K : SV -> Prop) : Prop:=∃ z',Ar k z z' /\ K (.int k z')
def bAnd (k : IntKind) (x y : Int) : Int:=k.wrap (BitVec.ofInt k.bits x &&& BitVec.ofInt k.bits y).toNat
def bOr (k : IntKind) (x y : Int) : Int:=k.wrap (BitVec.ofInt k.bits x ||| BitVec.ofInt k.bits y).toNat
def bXor (k : IntKind) (x y : Int) : Int:=k.wrap (BitVec.ofInt k.bits x ^^^ BitVec.ofInt k.bits y).toNat
def bAndNot (k : IntKind) (x y : Int) : Int:=k.wrap (BitVec.ofInt k.bits x &&& ~~~(BitVec.ofInt k.bits y)).toNat
def intK (o : BinOp) (k k' : IntKind) (a b : Int) (K : SV -> Prop) : Prop :=
  match o with
  | .add=>k = k' /\ arK k (a + b) K
  | .sub=>k = k' /\ arK k (a - b) K
  | .mul=>k = k' /\ arK k (a * b) K
  | .quo=>k = k' /\ b ≠ 0 /\ arK k (a.tdiv b) K
  | .rem=>k = k' /\ b ≠ 0 /\ K (.int k (a.tmod b))
  | .and=>k = k' /\ K (.int k (bAnd k a b))
  | .or=>k = k' /\ K (.int k (bOr k a b))
  | .xor=>k = k' /\ K (.int k (bXor k a b))
  | .andNot=>k = k' /\ K (.int k (bAndNot k a b))
  | .shl=>0 <= b /\ arK k (a * 2 ^ (min b.toNat k.bits)) K
  | .shr=>0 <= b /\ K (.int k (a / 2 ^ (min b.toNat k.bits)))
  | .eql=>k = k' /\ K (.bool (decide (a = b)))
  | .neq=>k = k' /\ K (.bool (decide (a ≠ b)))
  | .lss=>k = k' /\ K (.bool (decide (a < b)))
  | .leq=>k = k' /\ K (.bool (decide (a <= b)))
  | .gtr=>k = k' /\ K (.bool (decide (b < a)))
  | .geq=>k = k' /\ K (.bool (decide (b <= a)))
def binK (o : BinOp) (x y : SV) (K : SV -> Prop) : Prop :=
  match x,y with
  | .int k a,.int k' b=>intK o k k' a b K
  | _,_=>False
def unK (o : UnOp) (x : SV) (K : SV -> Prop) : Prop :=
  match o,x with
  | .neg,.int k a=>arK k (0 - a) K
  | .xor,.int k a=>K (.int k (bXor k (if k.signed then -1 else k.max) a))
  | .not,.bool b=>K (.bool !b)
  | _,_=>False
def partK (s : Nat) (ag : Bool) (cells : List SV) (o : Nat) (K : SV → Prop) : Prop :=
  match ag with
  | true=>o + s <= cells.length /\ K (.agg ((cells.drop o).take s))
  | false => match cells[o]? with
    | some c=>K c
    | none=>False
def ldK (s : Nat) (ag : Bool) (p : SV) (H : List Blk) (K : SV → Prop) : Prop :=
  match p with
  | .box cells j=>partK s ag cells j K
  | .ptr k wd i j => match H[k]? with
    | some (.vars cells)=>partK s ag cells (i * wd + j) K
    | some (.arr wd' xs)=>wd' = wd /\ ∃ x,xs[i]? = some x /\ partK s ag x j K
    | _=>False
  | _=>False
def asI : SV -> (Int -> Prop) -> Prop
  | .int _ i,K=>K i
  | _,_=>False
def cellsOf : SV -> Option (List SV)
  | .agg fs=>some fs
  | .any=>none
  | .raw (.agg _)=>none
  | x=>some [x]
def SV.scalar : SV -> Bool
  | .any | .agg _ | .tup _=>false
  | .raw v=>v.oneCell'
  | _=>true
def scalarL : List SV -> Bool
  | []=>true
  | x::xs=>x.scalar && scalarL xs
def splice (cells : List SV) (o : Nat) (fs : List SV) : List SV:=cells.take o ++ (fs ++ cells.drop (o + fs.length))
def bldK (e : Env) : List SV → List (Nat × Nat × Opd) → (SV → Prop) → Prop
  | z,[],K=>K (.agg z)
  | z, (off, s, x) :: ps, K => match cellsOf (ev e x) with
    | some fs=>fs.length = s /\ off + s <= z.length /\ bldK e (splice z off fs) ps K
    | none=>False
def bslK (e : Env) (wd : Nat) : List (List SV) → List (Nat × Opd) → (SV → Prop) → Prop
  | xs,[],K=>K (.slc wd xs)
  | xs, (i, x) :: ps, K => match cellsOf (ev e x) with
    | some fs=>fs.length = wd /\ i < xs.length /\ SV.pure.pureL fs = true /\ bslK e wd (xs.set i fs) ps K
    | none=>False
def bslEnd (len : Nat) (sv : SV) : SV :=
  match len with
  | 0=>.nils
  | _=>sv
def mmK (mx : Bool) (e : Env) : SV → List Opd → (SV → Prop) → Prop
  | a,[],K=>K a
  | a, x :: xs, K => match a, ev e x with
    | .int k m, .int _ y => match mx with
      | true=>mmK mx e (.int k (max m y)) xs K
      | false=>mmK mx e (.int k (min m y)) xs K
    | _,_=>False
def fnsOf : SV -> Option (FuncId × List SV × List SV)
  | .fn f caps=>some (f,[],caps)
  | .mth f x=>some (f,[x],[])
  | _=>none
def FS (P : Program) (f : FuncId) (args : List SV) (res : SV) : Prop :=
  (∀ vs w,(callFunc f vs).run P w = .ok (.enter f vs) w) /\
  ∀ (w : World) (A : Nat → Prop) (vs : List Value), (∀ b, A b → b < w.heap.size) → vs.length = args.length → (∀ (i : Nat) (x : SV) (v : Value), args[i]? = some x → vs[i]? = some v → Rep w A [] x v) →
    Calls P f vs.toArray w fun e w'=>∃ v,e = .returned v /\ Belo w.heap.size w w' /\ Rep w' A [] res v
def lendK (P : Program) (g : FuncId) (as : List SV) (H : List Blk) (K : SV -> Prop) : Prop :=
  frzs (frzK 4 H) as fun as=>∃ res,FS P g as res /\ SV.loose res = true /\ K res
def EqOk (P : Program) (neg : Bool) (t : TypeId) (fs gs : List SV) (b : Bool) : Prop :=
  ∀ (w : World) (A : Nat → Prop) (β : List (Option Nat)) (x y : Value) (p q : Operand), Rep w A β (.agg fs) x → Rep w A β (.agg gs) y →
    (do eqGuard (if neg then .neq else .eql) t p q x y; binOp (if neg then .neq else .eql) t x y : Sem Value).run P w = .ok (.bool b) w
def OthOk (P : Program) (o : Oper) (e : Env) (res : SV) : Prop :=
  ∀ (w : World) (A : Nat → Prop) (β : List (Option Nat)) (a : Act), (∀ t, Operand.tmp t ∈ o.op.operands → Rep w A β (look e t) (a.tmps.getD t undef)) →
    ∃ v,(execOp a.eval o).run P w = .ok (.value v) w /\ Rep w A β res v
def lowK (e : Env) (lo : Option Opd) (K : Int -> Prop) : Prop :=
  match lo with
  | none=>K 0
  | some x=>asI (ev e x) K
def highK (e : Env) (n : Nat) (hi : Option Opd) (K : Int -> Prop) : Prop :=
  match hi with
  | none=>K n
  | some x=>asI (ev e x) K
def slK (e : Env) (wd : Nat) (x : SV) (lo hi : Option Opd) (mx : Option Opd) (K : SV → Prop) : Prop :=
  match mx with
  | some m => asI (ev e m) fun m => match lo, hi, x with
    | some l,some h,.slc wd' xs=>asI (ev e l) fun l=>asI (ev e h) fun h=>wd' = wd /\ 0 <= l /\ l <= h /\ h <= m /\ m <= xs.length /\ K (.slc wd ((xs.take h.toNat).drop l.toNat))
    | none,some h,.slc _ _ | none,some h,.osl _ _ _ _ | none,some h,.nils=>asI (ev e h) fun h=>h = 0 /\ m = 0 /\ K .nils
    | _,_,_=>False
  | none => match x with
    | .slc wd' xs=>wd' = wd /\ lowK e lo fun l=>highK e xs.length hi fun h=>0 <= l /\ l <= h /\ h <= xs.length /\ K (.slc wd ((xs.take h.toNat).drop l.toNat))
    | .osl k wd' i n=>wd' = wd /\ lowK e lo fun l=>highK e n hi fun h=>0 <= l /\ l <= h /\ h <= n /\ K (.osl k wd (i + l.toNat) (h.toNat - l.toNat))
    | .nils=>lowK e lo fun l=>highK e 0 hi fun h=>l = 0 /\ h = 0 /\ K .nils
    | _=>False
def pop (P : Program) (op : IOp) (e : Env) (H : List Blk) (K : SV → Prop) : Prop :=
  match op with
  | .mv x=>K (ev e x)
  | .pick c a b => match ev e c with
    | .bool true=>K (ev e a)
    | .bool false=>K (ev e b)
    | _=>False
  | .ck x => match ev e x with
    | .ptr k wd i j=>K (.ptr k wd i j)
    | .box cs j=>K (.box cs j)
    | .fn f caps=>K (.fn f caps)
    | .mth f x=>K (.mth f x)
    | _=>False
  | .bin o x y=>binK o (ev e x) (ev e y) K
  | .beq neg x y => match ev e x, ev e y with
    | .bool a, .bool b => match neg with
      | true=>K (.bool (a != b))
      | false=>K (.bool (a == b))
    | _,_=>False
  | .seq neg x y => match ev e x, ev e y with
    | .str a, .str b => match neg with
      | true=>K (.bool (decide (a ≠ b)))
      | false=>K (.bool (decide (a = b)))
    | _,_=>False
  | .eqv neg t x y => match ev e x, ev e y with
    | .agg fs,.agg gs=>∃ b,EqOk P neg t fs gs b /\ K (.bool b)
    | _,_=>False
  | .isn neg x => match ev e x with
    | .slc _ xs=>(xs ≠ [] -> K (.bool neg)) /\ (xs = [] -> K .anyb)
    | .osl _ _ _ n=>(n ≠ 0 -> K (.bool neg)) /\ (n = 0 -> K .anyb)
    | .nils=>K .anyb
    | _=>False
  | .un o x=>unK o (ev e x) K
  | .cv k x=>asI (ev e x) fun z=>arK k z K
  | .fn f caps => match bOf caps with
    | none=>K (.fn f (caps.map (ev e)))
    | some x=>(ev e x).pure = true /\ K (.mth f (ev e x))
  | .bld z parts=>bldK e z parts K
  | .bsl len wd z parts=>SV.pure.pureL z = true /\ bslK e wd (List.replicate len z) parts fun sv=>K (bslEnd len sv)
  | .ld s ag x=>ldK s ag (ev e x) H K
  | .fa off x => match ev e x with
    | .ptr k wd i j=>K (.ptr k wd i (j + off))
    | .box cs j=>K (.box cs (j + off))
    | _=>False
  | .fd off s ag x => match ev e x with
    | .agg fs=>partK s ag fs off K
    | _=>False
  | .ia wd x i => asI (ev e i) fun i => match ev e x with
    | .slc wd' xs=>wd' = wd /\ 0 <= i /\ i < xs.length /\ ∀ x,xs[i.toNat]? = some x -> K (.box x 0)
    | .osl k wd' b n=>wd' = wd /\ 0 <= i /\ i < n /\ K (.ptr k wd (b + i.toNat) 0)
    | _=>False
  | .iaA n wd x i => asI (ev e i) fun i => 0 ≤ i ∧ i < n ∧ match ev e x with
    | .ptr k wd' i0 j0=>K (.ptr k wd' i0 (j0 + i.toNat * wd))
    | .box cs j=>K (.box cs (j + i.toNat * wd))
    | _=>False
  | .ix n wd ag x i => asI (ev e i) fun i => 0 ≤ i ∧ i < n ∧ match ev e x with
    | .agg fs=>partK wd ag fs (i.toNat * wd) K
    | _=>False
  | .ex i x => match ev e x with
    | .tup fs => match fs[i]? with
      | some f=>K f
      | none=>False
    | _=>False
  | .ln x => match ev e x with
    | .slc _ xs=>K (.int .i64 xs.length)
    | .osl _ _ _ n=>K (.int .i64 n)
    | .nils=>K (.int .i64 0)
    | _=>False
  | .lnA n _=>K (.int .i64 n)
  | .sl wd x lo hi mx=>slK e wd (ev e x) lo hi mx K
  | .mm mx xs => match xs with
    | x :: xs => match ev e x with
      | .int k m=>mmK mx e (.int k m) xs K
      | _=>False
    | []=>False
  | .call f args => match fnsOf (ev e f) with
    | some (g,pre,caps)=>(SV.pure.pureL (pre ++ args.map (ev e) ++ caps) = true /\ ∃ res,FS P g (pre ++ args.map (ev e) ++ caps) res /\ K res) \/ lendK P g (pre ++ args.map (ev e) ++ caps) H K
    | none=>False
  | .oth o=>∃ res,OthOk P o e res /\ K res
  | _=>False
end
section
open Go.RowKit
/-! ### What an operation yields -/
def Oper.relUpon (P : Program) (K : Value -> World -> Prop) : Result Next -> Prop
  | .ok (.value u) w'=>K u w'
  | .ok .skip w'=>K undef w'
  | .ok (.enter f args) w'=>Calls P f args w' fun e w''=>∃ v,e = .returned v /\ K v w''
  | _=>False
def rel (P : Program) (o : Oper) (a : Act) (w : World) (K : Value -> World -> Prop) : Prop:=Oper.relUpon P K ((execOp a.eval o).run P w)
theorem rel_mono {P : Program} {o : Oper} {a : Act} {w : World} {K K' : Value -> World -> Prop} (h : rel P o a w K) (hk : ∀ v w',K v w' -> K' v w') : rel P o a w K':=by
  unfold rel at *
  generalize (execOp a.eval o).run P w = r at *
  cases r with
  | ok n w' =>
    cases n <;> simp only [Oper.relUpon] at h ⊢
    case value u=>exact hk _ _ h
    case skip=>exact hk _ _ h
    case enter f args=>exact h.mono fun e w'' ⟨v,he,hv⟩=>⟨v,he,hk _ _ hv⟩
  | halt x w'=>simp only [Oper.relUpon] at h
theorem rel_value {P : Program} {o : Oper} {a : Act} {w w' : World} {v : Value} {K : Value -> World -> Prop} (h : (execOp a.eval o).run P w = .ok (.value v) w') (hk : K v w') : rel P o a w K:=by
  unfold rel; rw [h]; exact hk
/-! ### Types -/
section
variable {P : Program} {w : World}
theorem run_typeInfo {t : TypeId} {i : TypeInfo} (h : P.info? t = some i) : (typeInfo t).run P w = .ok i w:=by simp [typeInfo,program,Sem.run,h]
theorem run_under {t : TypeId} {d : TypeDesc} (h : P.underlying t = some d) : (underlying t).run P w = .ok d w:=by simp [underlying,program,Sem.run,h]
theorem szOf_some {t : TypeId} {s : Nat} (h : szOf P t = some s) : ∃ i,P.info? t = some i /\ i.size = s:=by
  unfold szOf at h
  exact Option.map_eq_some_iff.1 h
theorem run_size {t : TypeId} {s : Nat} (h : szOf P t = some s) : (sizeOf t).run P w = .ok s w:=by
  obtain ⟨i,hi,rfl⟩:=szOf_some h
  simp [sizeOf,run_typeInfo hi]
theorem run_isAgg {t : TypeId} {ag : Bool} (h : aggOf P t = some ag) : (isAgg t).run P w = .ok ag w:=by
  unfold aggOf at h
  obtain ⟨d,hd,rfl⟩:=Option.map_eq_some_iff.1 h
  simp only [isAgg,Sem.run_bind,run_under hd,Result.andThen_ok]
  cases d <;> rfl
theorem run_zero {t : TypeId} {z : List SV} (h : zeroOf P t = some z) : ∃ v,(∀ w,(zeroValue t).run P w = .ok v w) /\ v.cells.toList.map ofVal1 = z:=by
  unfold zeroOf at h
  obtain ⟨v,hv,rfl⟩:=Option.map_eq_some_iff.1 h
  obtain ⟨i,hi,hz⟩:=Option.bind_eq_some_iff.1 hv
  exact ⟨v,fun w=>by simp [zeroValue,run_typeInfo hi,hz],rfl⟩
/-! ### Operands -/
theorem ofVal1_rep {A : Nat -> Prop} {β : List (Option Nat)} (v : Value) : Rep w A β (ofVal1 v) v:=by
  unfold ofVal1
  split
  . exact .int _ _ _
  . exact .bool _ _
  . exact .str _ _
  . exact .nils _ _
  . exact .raw _ _
theorem ofVal_rep {A : Nat -> Prop} {β : List (Option Nat)} (v : Value) : Rep w A β (ofVal v) v:=by
  unfold ofVal
  split
  . rename_i cs
    refine .agg _ _ cs.toList (by simp) fun i f v h1 h2=>?_
    simp only [List.getElem?_map,h2,Option.map_some,Option.some.injEq] at h1
    exact h1 ▸ ofVal1_rep v
  . rename_i cs
    refine .tup _ _ cs.toList (by simp) fun i f v h1 h2=>?_
    simp only [List.getElem?_map,h2,Option.map_some,Option.some.injEq] at h1
    exact h1 ▸ ofVal1_rep v
  . exact ofVal1_rep v
theorem ev_rep {A : Nat -> Prop} {β : List (Option Nat)} {e : Env} {a : Act} (x : Operand) (h : ∀ t,x = .tmp t -> Rep w A β (look e t) (a.tmps.getD t undef)) : Rep w A β (ev e (cOpd x)) (a.eval x):=by
  cases x with
  | tmp t=>exact h t rfl
  | const v=>exact ofVal_rep v
  | global g=>exact .raw _ _
  | func f=>exact .fn _ _ _ [] rfl fun i f v h=>by simp at h
/-! ### Cells -/
theorem addr_add (b off n : Nat) : (⟨b,off,none⟩ : Addr).add n = ⟨b,off + n,none⟩:=by
  unfold Addr.add; split
  . rename_i h; subst h; rfl
  . rfl
theorem cell_of {b o : Nat} {cs : Array Value} {T : TypeId} {fr : Nat × Nat} (h : w.heap[b]? = some (.cells cs T fr)) : w.cell? ⟨b,o,none⟩ = cs[o]?:=by
  simp [World.cell?,h]
theorem run_loadCells {b : Nat} {cs : Array Value} {T : TypeId} {fr : Nat × Nat} (h : w.heap[b]? = some (.cells cs T fr)) (off : Nat) : ∀ (l : List Value) (i : Nat) (acc : Array Value),(∀ (j : Nat) (v : Value),l[j]? = some v -> cs[off + (i + j)]? = some v) ->
    (loadCellsFrom ⟨b,off,none⟩ i l.length acc).run P w = .ok (acc ++ l.toArray) w
  | [],i,acc,_=>by simp [loadCellsFrom]
  | v :: l, i, acc, hl => by
    have h0:=hl 0 v (by simp)
    have ih:=run_loadCells h off l (i + 1) (acc.push v) fun j u hj=>by
      have:=hl (j + 1) u (by simpa using hj)
      rw [<- this]; congr 1; omega
    simp only [List.length_cons,loadCellsFrom,Sem.run_bind,run_load,addr_add,cell_of h]
    simp only [Nat.add_zero] at h0
    simp only [h0,Result.andThen_ok,ih]
    simp
def PartOf (s : Nat) (ag : Bool) (cells : List SV) (o : Nat) (sv : SV) : Prop :=
  match ag with
  | true=>o + s <= cells.length /\ sv = .agg ((cells.drop o).take s)
  | false=>cells[o]? = some sv
theorem partK_ex {s : Nat} {ag : Bool} {cells : List SV} {o : Nat} {K : SV -> Prop} (h : partK s ag cells o K) : ∃ sv,K sv /\ PartOf s ag cells o sv:=by
  unfold partK at h
  cases ag with
  | true=>exact ⟨_,h.2,h.1,rfl⟩
  | false =>
    simp only at h
    split at h
    . rename_i c hc; exact ⟨c,h,hc⟩
    . exact h.elim
def Reps (w : World) (A : Nat -> Prop) (β : List (Option Nat)) (fs : List SV) (vs : List Value) : Prop:=vs.length = fs.length /\ ∀ (i : Nat) (f : SV) (v : Value),fs[i]? = some f -> vs[i]? = some v -> Rep w A β f v
theorem fnsOf_rep {w : World} {A : Nat -> Prop} {β : List (Option Nat)} {sv : SV} {v : Value} {g : FuncId} {pre post : List SV} (h : fnsOf sv = some (g,pre,post)) (hr : Rep w A β sv v) : ∃ us vs : List Value,v = .func (.func g) us.toArray vs.toArray /\ Reps w A β pre us /\ Reps w A β post vs:=by
  cases sv <;> simp only [fnsOf,Option.some.injEq,Prod.mk.injEq,reduceCtorEq] at h
  case fn f caps =>
    obtain ⟨rfl,rfl,rfl⟩:=h
    cases hr
    rename_i vs hl hh
    exact ⟨[],vs,rfl,⟨rfl,fun i f v h=>by simp at h⟩,hl,hh⟩
  case mth f x =>
    obtain ⟨rfl,rfl,rfl⟩:=h
    cases hr
    rename_i v h
    refine ⟨[v],[],rfl,⟨rfl,fun i f u h1 h2=>?_⟩,rfl,fun i f v h=>by simp at h⟩
    match i with
    | 0 =>
      obtain rfl : _ = f:=Option.some.inj h1
      obtain rfl : _ = u:=Option.some.inj h2
      exact h.more β fun k b h=>by simp at h
    | i + 1=>cases h1
theorem part_load {t : TypeId} {s : Nat} {ag : Bool} (hs : szOf P t = some s) (hag : aggOf P t = some ag) {A : Nat -> Prop} {β : List (Option Nat)} {cells : List SV} {o : Nat} {sv : SV} (hp : PartOf s ag cells o sv)
    {b : Nat} {cs : Array Value} {T : TypeId} {fr : Nat × Nat} (h : w.heap[b]? = some (.cells cs T fr)) {base : Nat} (hc : ∀ (j : Nat) (c : SV),cells[j]? = some c -> ∃ v,cs[base + j]? = some v /\ Rep w A β c v) :
    ∃ v,(loadVar t ⟨b,base + o,none⟩).run P w = .ok v w /\ Rep w A β sv v:=by
  cases ag with
  | false =>
    obtain ⟨v,h1,h2⟩:=hc o sv hp
    exact ⟨v,by simp [loadVar,run_isAgg hag,run_load,cell_of h,h1],h2⟩
  | true =>
    obtain ⟨hlen,rfl⟩:=hp
    let l:=(List.range s).map fun j=>(cs[base + o + j]?).getD undef
    have hl : l.length = s:=by simp [l]
    have hget : ∀ (j : Nat) (v : Value),l[j]? = some v -> ∃ c,((cells.drop o).take s)[j]? = some c /\ cs[base + o + j]? = some v /\ Rep w A β c v:=by
      intro j v hv
      have hj : j < s:=by
        rcases Nat.lt_or_ge j s with h' | h'
        . exact h'
        . rw [List.getElem?_eq_none (by omega)] at hv; cases hv
      have hcj : ∃ c,cells[o + j]? = some c:=⟨cells[o + j]'(by omega),by simp [show o + j < cells.length by omega]⟩
      obtain ⟨c,hcj⟩:=hcj
      obtain ⟨v',h1,h2⟩:=hc (o + j) c hcj
      rw [<- Nat.add_assoc] at h1
      have : v = v':=by
        simp only [l,List.getElem?_map,List.getElem?_range hj,Option.map_some,Option.some.injEq] at hv
        rw [<- hv,h1]; rfl
      subst this
      exact ⟨c,by rw [List.getElem?_take_of_lt hj,List.getElem?_drop,hcj],h1,h2⟩
    have hrun:=run_loadCells (P:=P) h (base + o) l 0 #[] fun j v hv=>by
      obtain ⟨c,_,h1,_⟩:=hget j v hv
      rw [Nat.zero_add]; exact h1
    refine ⟨.agg l.toArray,?_,.agg _ _ l (by rw [hl]; simp; omega) fun j c v h1 h2=>?_⟩
    . simp only [loadVar,Sem.run_bind,run_isAgg hag,Result.andThen_ok,if_true,run_size hs,loadCells]
      rw [hl] at hrun
      simp only [hrun,Result.andThen_ok,Sem.run_pure]
      simp
    . obtain ⟨c',h3,_,h4⟩:=hget j v h2
      rw [h3] at h1; cases h1; exact h4
theorem part_field {t : TypeId} {s : Nat} {ag : Bool} (hs : szOf P t = some s) (hag : aggOf P t = some ag) {A : Nat -> Prop} {β : List (Option Nat)} {cells : List SV} {o : Nat} {sv : SV} (hp : PartOf s ag cells o sv)
    {vs : List Value} (hv : Reps w A β cells vs) : ∃ v,(part t vs.toArray o).run P w = .ok v w /\ Rep w A β sv v:=by
  cases ag with
  | false =>
    have hlt : o < cells.length:=(List.getElem?_eq_some_iff.1 hp).1
    have hlt' : o < vs.length:=by rw [hv.1]; exact hlt
    refine ⟨vs[o],by simp [part,run_isAgg hag,hlt'],hv.2 o sv _ hp (by simp [hlt'])⟩
  | true =>
    obtain ⟨hlen,rfl⟩:=hp
    refine ⟨.agg ((vs.drop o).take s).toArray,by simp [part,run_isAgg hag,run_size hs,List.extract_eq_take_drop],.agg _ _ _ (by simp [hv.1]) fun i f v h1 h2=>?_⟩
    by_cases hi : i < s
    . rw [List.getElem?_take_of_lt hi,List.getElem?_drop] at h1 h2
      exact hv.2 _ _ _ h1 h2
    . rw [List.getElem?_eq_none (by simp; omega)] at h1; cases h1
/-! ### Numbers -/
theorem wrap_in {k : IntKind} {z : Int} (h : inK k z) : k.wrap z = z:=by
  cases k <;> simp only [inK] at h
  . exact IntWalk.i8_in _ h
  . exact IntWalk.i16_in _ h
  . exact IntWalk.i32_in _ h
  . exact IntWalk.i64_in _ h
  . exact IntWalk.u8_in _ h
  . exact IntWalk.u16_in _ h
  . exact IntWalk.u32_in _ h
  . exact IntWalk.u64_in _ h
theorem Ar.eq {k : IntKind} {z z' : Int} (h : Ar k z z') : z' = k.wrap z:=by
  rcases h with ⟨h,rfl⟩ | h
  . exact (wrap_in h).symm
  . exact h
theorem intK_sound {o : BinOp} {k k' : IntKind} {a b : Int} {K : SV -> Prop} (t : TypeId) (h : intK o k k' a b K) : ∃ sv,K sv /\ ∃ v,(∀ w,(binOp o t (.int k a) (.int k' b)).run P w = .ok v w) /\ ∀ w A β,Rep w A β sv v:=by
  unfold intK at h
  cases o <;> simp only at h
  case add=>obtain ⟨rfl,z,hz,hK⟩:=h; exact ⟨_,hK,_,fun w=>by simp [binOp,Op.intArith]; rfl,fun w A β=>by rw [<- hz.eq]; exact .int _ _ _⟩
  case sub=>obtain ⟨rfl,z,hz,hK⟩:=h; exact ⟨_,hK,_,fun w=>by simp [binOp,Op.intArith]; rfl,fun w A β=>by rw [<- hz.eq]; exact .int _ _ _⟩
  case mul=>obtain ⟨rfl,z,hz,hK⟩:=h; exact ⟨_,hK,_,fun w=>by simp [binOp,Op.intArith]; rfl,fun w A β=>by rw [<- hz.eq]; exact .int _ _ _⟩
  case quo=>obtain ⟨rfl,hb,z,hz,hK⟩:=h; exact ⟨_,hK,_,fun w=>by simp [binOp,Op.intDiv,hb]; rfl,fun w A β=>by rw [<- hz.eq]; exact .int _ _ _⟩
  case rem=>obtain ⟨rfl,hb,hK⟩:=h; exact ⟨_,hK,.int k (a.tmod b),fun w=>by simp [binOp,Op.intDiv,hb],fun w A β=>.int _ _ _⟩
  case and=>obtain ⟨rfl,hK⟩:=h; exact ⟨_,hK,.int k (bAnd k a b),fun w=>by simp only [binOp,Op.intBits,ne_eq,not_true,if_false]; rfl,fun w A β=>.int _ _ _⟩
  case or=>obtain ⟨rfl,hK⟩:=h; exact ⟨_,hK,.int k (bOr k a b),fun w=>by simp only [binOp,Op.intBits,ne_eq,not_true,if_false]; rfl,fun w A β=>.int _ _ _⟩
  case xor=>obtain ⟨rfl,hK⟩:=h; exact ⟨_,hK,.int k (bXor k a b),fun w=>by simp only [binOp,Op.intBits,ne_eq,not_true,if_false]; rfl,fun w A β=>.int _ _ _⟩
  case andNot=>obtain ⟨rfl,hK⟩:=h; exact ⟨_,hK,.int k (bAndNot k a b),fun w=>by simp only [binOp,Op.intBits,ne_eq,not_true,if_false]; rfl,fun w A β=>.int _ _ _⟩
  case shl=>obtain ⟨hb,z,hz,hK⟩:=h; exact ⟨_,hK,_,fun w=>by simp [binOp,Op.shift,show ¬ b < 0 by omega]; rfl,fun w A β=>by rw [<- hz.eq]; exact .int _ _ _⟩
  case shr =>
    obtain ⟨hb,hK⟩:=h
    refine ⟨_,hK,.int k (a / 2 ^ (min b.toNat k.bits)),fun w=>?_,fun w A β=>.int _ _ _⟩
    simp only [binOp,Op.shift,show ¬ b < 0 by omega,if_false,Sem.run_pure]
    rw [Int.fdiv_eq_ediv_of_nonneg _ (Int.le_of_lt (Int.pow_pos (by decide)))]
  case eql=>obtain ⟨rfl,hK⟩:=h; exact ⟨_,hK,_,fun w=>by simp only [binOp,Op.intCmp,ne_eq,not_true,if_false]; rfl,fun w A β=>.bool _ _⟩
  case neq=>obtain ⟨rfl,hK⟩:=h; exact ⟨_,hK,.bool (decide (a ≠ b)),fun w=>by simp [binOp,Op.intCmp,bne]; rfl,fun w A β=>.bool _ _⟩
  case lss=>obtain ⟨rfl,hK⟩:=h; exact ⟨_,hK,_,fun w=>by simp only [binOp,Op.intCmp,ne_eq,not_true,if_false]; rfl,fun w A β=>.bool _ _⟩
  case leq=>obtain ⟨rfl,hK⟩:=h; exact ⟨_,hK,_,fun w=>by simp only [binOp,Op.intCmp,ne_eq,not_true,if_false]; rfl,fun w A β=>.bool _ _⟩
  case gtr=>obtain ⟨rfl,hK⟩:=h; exact ⟨_,hK,_,fun w=>by simp only [binOp,Op.intCmp,ne_eq,not_true,if_false]; rfl,fun w A β=>.bool _ _⟩
  case geq=>obtain ⟨rfl,hK⟩:=h; exact ⟨_,hK,_,fun w=>by simp only [binOp,Op.intCmp,ne_eq,not_true,if_false]; rfl,fun w A β=>.bool _ _⟩
theorem unK_sound {o : UnOp} {x : SV} {K : SV -> Prop} (h : unK o x K) : ∃ sv,K sv /\ ∀ w A β v,Rep w A β x v -> ∃ u,(Op.unary o v).run P w = .ok u w /\ Rep w A β sv u:=by
  unfold unK at h
  split at h
  . obtain ⟨z,hz,hK⟩:=h
    refine ⟨_,hK,fun w A β v hv=>?_⟩
    cases hv
    exact ⟨_,by simp [Op.unary,Op.intArith]; rfl,by have:=hz.eq; rw [Int.zero_sub] at this; rw [<- this]; exact .int _ _ _⟩
  . refine ⟨_,h,fun w A β v hv=>?_⟩
    cases hv
    exact ⟨_,by simp [Op.unary,Op.intBits]; rfl,.int _ _ _⟩
  . refine ⟨_,h,fun w A β v hv=>?_⟩
    cases hv
    exact ⟨_,rfl,.bool _ _⟩
  . exact h.elim
end
end
section
open Go.RowKit
section
variable {P : Program}
def Good (P : Program) (o : Oper) (e : Env) (H : List Blk) (sv : SV) : Prop :=
  ∀ (w : World) (A : Nat → Prop) (β : List (Option Nat)) (a : Act), (∀ b, A b → b < w.heap.size) → WB w A β H → (∀ t, Operand.tmp t ∈ o.op.operands → Rep w A β (look e t) (a.tmps.getD t undef)) →
    rel P o a w fun v w'=>Belo w.heap.size w w' /\ Rep w' A β sv v
theorem good_of {o : Oper} {e : Env} {H : List Blk} {sv : SV}
    (h : ∀ (w : World) (A : Nat -> Prop) (β : List (Option Nat)) (a : Act),WB w A β H -> (∀ x,x ∈ o.op.operands -> Rep w A β (ev e (cOpd x)) (a.eval x)) -> ∃ v,(execOp a.eval o).run P w = .ok (.value v) w /\ Rep w A β sv v) : Good P o e H sv:=by
  intro w A β a _ hW hr
  obtain ⟨v,h1,h2⟩:=h w A β a hW fun x hx=>ev_rep x fun t ht=>hr t (ht ▸ hx)
  exact rel_value h1 ⟨Belo.refl _ _,h2⟩
theorem rep_int {w : World} {A : Nat -> Prop} {β : List (Option Nat)} {k : IntKind} {x : Int} {v : Value} (h : Rep w A β (.int k x) v) : v = .int k x:=by cases h; rfl
theorem rep_bool {w : World} {A : Nat -> Prop} {β : List (Option Nat)} {b : Bool} {v : Value} (h : Rep w A β (.bool b) v) : v = .bool b:=by cases h; rfl
theorem asI_ex {x : SV} {K : Int -> Prop} (h : asI x K) : ∃ k i,x = .int k i /\ K i:=by
  unfold asI at h; split at h
  . exact ⟨_,_,rfl,h⟩
  . exact h.elim
theorem mmK_sound (mx : Bool) (e : Env) : ∀ (xs : List Operand) (s : SV) (K : SV -> Prop),mmK mx e s (xs.map cOpd) K -> (∃ k m,s = .int k m) -> ∃ sv,K sv /\ (∃ k m,sv = .int k m) /\
    ∀ (w : World) (A : Nat → Prop) (β : List (Option Nat)) (a : Act) (v : Value), Rep w A β s v → (∀ x ∈ xs, Rep w A β (ev e (cOpd x)) (a.eval x)) →
      ∃ u,((xs.map a.eval).foldlM (if mx then Builtin.max2 else Builtin.min2) v).run P w = .ok u w /\ Rep w A β sv u
  | [],s,K,h,hs=>⟨s,h,hs,fun w A β a v hv _=>⟨v,by simp,hv⟩⟩
  | x :: xs, s, K, h, hs => by
    obtain ⟨k,m,rfl⟩:=hs
    simp only [List.map_cons,mmK] at h
    cases hx : ev e (cOpd x) with
    | int k' y =>
      simp only [hx] at h
      have h : mmK mx e (.int k (if mx then max m y else min m y)) (xs.map cOpd) K:=by cases mx <;> exact h
      obtain ⟨sv,hK,hi,hrun⟩:=mmK_sound mx e xs _ K h ⟨_,_,rfl⟩
      refine ⟨sv,hK,hi,fun w A β a v hv hr=>?_⟩
      have hv':=rep_int hv
      have hx':=hr x (by simp)
      rw [hx] at hx'
      have hx':=rep_int hx'
      obtain ⟨u,h1,h2⟩:=hrun w A β a (.int k (if mx then max m y else min m y)) (.int _ _ _) fun z hz=>hr z (by simp [hz])
      refine ⟨u,?_,h2⟩
      rw [<- h1,hv']
      simp only [List.map_cons,List.foldlM_cons,hx',Sem.run_bind]
      cases mx
      . simp only [Bool.false_eq_true,if_false,Builtin.min2,Sem.run_pure,Result.andThen_ok]
        have : (if y < m then y else m) = min m y:=by omega
        rw [this]
      . simp only [if_true,Builtin.max2,Sem.run_pure,Result.andThen_ok]
        have : (if y > m then y else m) = max m y:=by omega
        rw [this]
    | _=>simp [hx] at h
theorem foldl_set (fs : List Value) : ∀ (off k : Nat) (cs : List Value),off + k + fs.length <= cs.length ->
    ((fs.zipIdx k).foldl (fun (c : Array Value) (x : Value × Nat)=>c.setIfInBounds (off + x.2) x.1) cs.toArray) = (cs.take (off + k) ++ (fs ++ cs.drop (off + k + fs.length))).toArray:=by
  induction fs with
  | nil=>intro off k cs _; simp
  | cons f fs ih =>
    intro off k cs h
    simp only [List.length_cons] at h
    simp only [List.zipIdx_cons,List.foldl_cons,List.setIfInBounds_toArray]
    rw [ih off (k + 1) (cs.set (off + k) f) (by simp; omega)]
    have e1 : (cs.set (off + k) f).take (off + (k + 1)) = cs.take (off + k) ++ [f]:=by
      rw [show off + (k + 1) = off + k + 1 by omega,List.take_succ_eq_append_getElem (by simp; omega),List.getElem_set_self,List.take_set_of_le (by omega)]
    have e2 : (cs.set (off + k) f).drop (off + (k + 1) + fs.length) = cs.drop (off + k + (f::fs).length):=by
      rw [List.drop_set_of_lt (by omega)]; congr 1; simp; omega
    rw [e1,e2]
    simp
theorem splice_reps {w : World} {A : Nat -> Prop} {β : List (Option Nat)} {z fs : List SV} {cs vs : List Value} {off : Nat} (hz : Reps w A β z cs) (hf : Reps w A β fs vs) (hle : off + fs.length <= z.length) :
    Reps w A β (splice z off fs) (cs.take off ++ (vs ++ cs.drop (off + vs.length))):=by
  refine ⟨by simp [splice,hz.1,hf.1],fun i f v h1 h2=>?_⟩
  unfold splice at h1
  have e1 : (z.take off).length = off:=by simp; omega
  have e2 : (cs.take off).length = off:=by simp [hz.1]; omega
  by_cases hi : i < off
  . rw [List.getElem?_append_left (by omega),List.getElem?_take_of_lt hi] at h1 h2
    exact hz.2 i f v h1 h2
  . rw [List.getElem?_append_right (by omega)] at h1 h2
    rw [e1] at h1; rw [e2] at h2
    by_cases hj : i - off < fs.length
    . rw [List.getElem?_append_left (by omega)] at h1
      rw [List.getElem?_append_left (by rw [hf.1]; omega)] at h2
      exact hf.2 _ f v h1 h2
    . rw [List.getElem?_append_right (by omega)] at h1
      rw [List.getElem?_append_right (by rw [hf.1]; omega)] at h2
      rw [List.getElem?_drop] at h1 h2
      rw [hf.1] at h2
      exact hz.2 _ f v h1 h2
theorem cellsOf_reps {w : World} {A : Nat -> Prop} {β : List (Option Nat)} {x : SV} {fs : List SV} {v : Value} (hc : cellsOf x = some fs) (h : Rep w A β x v) : Reps w A β fs v.cells.toList:=by
  have one : v.cells = #[v] -> fs = [x] -> Reps w A β fs v.cells.toList:=by
    intro h1 h2
    subst h2
    rw [h1]
    refine ⟨rfl,fun i f u h3 h4=>?_⟩
    cases i with
    | zero=>simp at h3 h4; subst h3 h4; exact h
    | succ i=>simp at h3
  cases h
  case any=>simp [cellsOf] at hc
  case agg fs' vs hl hh =>
    simp only [cellsOf,Option.some.injEq] at hc
    subst hc
    exact ⟨by simpa [Value.cells] using hl,fun i f v h1 h2=>hh i f v h1 (by simpa [Value.cells] using h2)⟩
  case raw =>
    cases v <;> simp only [cellsOf,Option.some.injEq,reduceCtorEq] at hc
    all_goals exact one rfl hc.symm
  all_goals
    simp only [cellsOf,Option.some.injEq] at hc
    exact one rfl hc.symm
end
end
section
open Go.RowKit
section
variable {P : Program}
theorem bld_sound (place : Nat -> Option (Nat × Nat)) (e : Env) : ∀ (parts : List (Nat × Operand)) (parts' : List (Nat × Nat × Opd)) (z : List SV) (K : SV -> Prop),
    parts'.length = parts.length -> (∀ (k : Nat) (p : Nat × Operand) (q : Nat × Nat × Opd),parts[k]? = some p -> parts'[k]? = some q -> place p.1 = some (q.1,q.2.1) /\ q.2.2 = cOpd p.2) -> bldK e z parts' K ->
    ∃ zs, K (.agg zs) ∧ ∀ (w : World) (A : Nat → Prop) (β : List (Option Nat)) (a : Act) (cs : List Value), Reps w A β z cs → (∀ p ∈ parts, Rep w A β (ev e (cOpd p.2)) (a.eval p.2)) →
      ∃ cs',Instr.fill place cs.toArray (parts.map fun p=>(p.1,a.eval p.2)) = some cs'.toArray /\ Reps w A β zs cs'
  | [], parts', z, K, hl, _, h => by
    have : parts' = []:=List.length_eq_zero_iff.1 hl
    subst this
    exact ⟨z,h,fun w A β a cs hz _=>⟨cs,rfl,hz⟩⟩
  | p::parts,[],z,K,hl,_,h=>by simp at hl
  | p :: parts, (off, s, x) :: parts', z, K, hl, hp, h => by
    obtain ⟨h1,h2⟩:=hp 0 p (off,s,x) (by simp) (by simp)
    simp only at h1 h2
    subst h2
    simp only [bldK] at h
    cases hc : cellsOf (ev e (cOpd p.2)) with
    | none=>simp [hc] at h
    | some fs =>
      simp only [hc] at h
      obtain ⟨hs,hle,h⟩:=h
      obtain ⟨zs,hK,hrun⟩:=bld_sound place e parts parts' (splice z off fs) K (by simpa using hl) (fun k p' q h3 h4=>hp (k + 1) p' q (by simpa using h3) (by simpa using h4)) h
      refine ⟨zs,hK,fun w A β a cs hz hr=>?_⟩
      have hf:=cellsOf_reps hc (hr p (by simp))
      obtain ⟨cs',h5,h6⟩:=hrun w A β a _ (splice_reps hz hf (by omega)) fun q hq=>hr q (by simp [hq])
      refine ⟨cs',?_,h6⟩
      simp only [List.map_cons,Instr.fill,h1]
      have hsz : (a.eval p.2).cells.size = s:=by rw [<- hs,<- hf.1]; simp
      have hcs : cs.toArray.size = z.length:=by simp [hz.1]
      rw [if_neg (by simp only [hsz,hcs]; simp; omega)]
      have:=foldl_set (a.eval p.2).cells.toList off 0 cs (by simp only [Array.length_toList,hsz,hz.1]; omega)
      simp only [Nat.add_zero] at this
      rw [<- h5]
      congr 1
      rw [<- Array.foldl_toList,Array.toList_zipIdx]
      exact this
theorem mapM_forall {α β : Type} {f : α -> Option β} : ∀ {l : List α} {r : List β},l.mapM f = some r -> r.length = l.length /\ ∀ (k : Nat) (x : α) (y : β),l[k]? = some x -> r[k]? = some y -> f x = some y
  | [], r, h => by
    simp at h; subst h
    exact ⟨rfl,fun k x y h=>by simp at h⟩
  | a :: l, r, h => by
    simp only [List.mapM_cons,Option.bind_eq_bind,Option.pure_def] at h
    cases ha : f a with
    | none=>simp [ha] at h
    | some b =>
      cases hr : l.mapM f with
      | none=>simp [ha,hr] at h
      | some bs =>
        simp [ha,hr] at h
        subst h
        obtain ⟨h1,h2⟩:=mapM_forall hr
        refine ⟨by simp [h1],fun k x y h3 h4=>?_⟩
        cases k with
        | zero=>simp at h3 h4; subst h3 h4; exact ha
        | succ k=>exact h2 k x y (by simpa using h3) (by simpa using h4)
theorem array_map_toList (parts : Array (Nat × Operand)) (a : Act) : (parts.map fun (i,x)=>(i,a.eval x)).toList = parts.toList.map fun p=>(p.1,a.eval p.2):=by simp
theorem bld_good {o : Oper} {t : TypeId} {parts : Array (Nat × Operand)} (ho : o.op = .build t parts) {op : IOp} {e : Env} {H : List Blk} {K : SV → Prop} (hc : cop P o = some op) (h : pop P op e H K) : ∃ sv, K sv ∧ Good P o e H sv := by
  simp only [cop,ho] at hc
  cases hz : zeroOf P t with
  | none=>simp [hz] at hc
  | some z =>
    have hz':=hz
    unfold zeroOf at hz'
    obtain ⟨v,hv,rfl⟩:=Option.map_eq_some_iff.1 hz'
    clear hz'
    obtain ⟨it,hi,hzi⟩:=Option.bind_eq_some_iff.1 hv
    have zr : ∀ (w : World) (A : Nat -> Prop) (β : List (Option Nat)),Reps w A β (v.cells.toList.map ofVal1) v.cells.toList:=fun w A β=>⟨by simp,fun i f u h1 h2=>by
      simp only [List.getElem?_map,h2,Option.map_some,Option.some.injEq] at h1
      exact h1 ▸ ofVal1_rep u⟩
    have fin : ∀ (place : Nat -> Option (Nat × Nat)) (parts' : List (Nat × Nat × Opd)),parts'.length = parts.toList.length -> (∀ (k : Nat) (p : Nat × Operand) (q : Nat × Nat × Opd),parts.toList[k]? = some p -> parts'[k]? = some q -> place p.1 = some (q.1,q.2.1) /\ q.2.2 = cOpd p.2) ->
        (∀ vs,P.built t vs = Instr.fill place v.cells vs) -> bldK e (v.cells.toList.map ofVal1) parts' K -> ∃ sv,K sv /\ Good P o e H sv:=by
      intro place parts' h1 h2 h3 h4
      obtain ⟨zs,hK,hrun⟩:=bld_sound place e parts.toList parts' _ K h1 h2 h4
      refine ⟨_,hK,good_of fun w A β a hW hr=>?_⟩
      obtain ⟨cs',h5,h6⟩:=hrun w A β a _ (zr w A β) fun p hp=>hr p.2 (by simp only [ho,Op.operands]; simp; exact ⟨p.1,by simpa using hp⟩)
      refine ⟨.agg cs'.toArray,?_,.agg _ _ _ h6.1 h6.2⟩
      have:=run_build (P:=P) w t (parts.map fun (i,x)=>(i,a.eval x)) cs'.toArray (by rw [h3,array_map_toList,<- h5])
      simp [execOp,ho,this]
    have harr : v.cells.toList.toArray = v.cells:=by simp
    cases hu : P.underlying t with
    | none=>simp [hz,hu] at hc
    | some d =>
      cases d <;> simp only [hz,hu,reduceCtorEq] at hc
      case struct fields =>
        cases hp : placesOf P fields with
        | none=>simp [hp] at hc
        | some places =>
          simp only [hp] at hc
          obtain ⟨parts',hm,rfl⟩:=Option.map_eq_some_iff.1 hc
          obtain ⟨h1,h2⟩:=mapM_forall hm
          refine fin (places.toArray[·]?) parts' h1 (fun k p q h3 h4=>?_) (fun vs=>?_) h
          . have:=h2 k p q h3 h4
            unfold partOf at this
            obtain ⟨r,hr,rfl⟩:=Option.map_eq_some_iff.1 this
            exact ⟨by simpa using hr,rfl⟩
          . unfold placesOf at hp
            simp [Program.built,hi,hu,hzi,hp]
      case array n el =>
        obtain ⟨s,hs,rfl⟩:=Option.map_eq_some_iff.1 hc
        obtain ⟨ie,hie,hse⟩:=szOf_some hs
        refine fin (fun i=>some (i * s,s)) _ (by simp) (fun k p q h3 h4=>?_) (fun vs=>?_) h
        . simp only [List.getElem?_map,h3,Option.map_some,Option.some.injEq] at h4
          subst h4
          exact ⟨rfl,rfl⟩
        . simp [Program.built,hi,hu,hzi,hie,hse]
def Row (w : World) (A : Nat -> Prop) (wd : Nat) (xs : List (List SV)) (cs : List Value) : Prop :=
  xs.length * wd <= cs.length /\ ∀ (i : Nat) (x : List SV),xs[i]? = some x -> x.length = wd /\ ∀ (j : Nat) (c : SV),x[j]? = some c -> ∃ v,cs[i * wd + j]? = some v /\ Rep w A [] c v
theorem row_set {w : World} {A : Nat -> Prop} {wd : Nat} {xs : List (List SV)} {cs : List Value} {fs : List SV} {vs : List Value} {i : Nat} (hr : Row w A wd xs cs) (hf : Reps w A [] fs vs) (hl : fs.length = wd) (hi : i < xs.length) :
    Row w A wd (xs.set i fs) (cs.take (i * wd) ++ (vs ++ cs.drop (i * wd + vs.length))):=by
  have hb : i * wd + wd <= cs.length:=by
    have : (i + 1) * wd <= xs.length * wd:=Nat.mul_le_mul_right _ hi
    have:=hr.1
    rw [Nat.add_mul,Nat.one_mul] at *
    omega
  have hvl : vs.length = wd:=by rw [hf.1,hl]
  refine ⟨by have:=hr.1; simp [hvl]; omega,fun k x hx=>?_⟩
  by_cases hk : k = i
  . subst hk
    rw [List.getElem?_set_self hi] at hx
    cases hx
    refine ⟨hl,fun j c hc=>?_⟩
    have hj : j < fs.length:=(List.getElem?_eq_some_iff.1 hc).1
    obtain ⟨v,hv⟩ : ∃ v,vs[j]? = some v:=⟨vs[j]'(by rw [hf.1]; exact hj),by simp [hf.1,hj]⟩
    refine ⟨v,?_,hf.2 j c v hc hv⟩
    rw [List.getElem?_append_right (by simp; omega),List.length_take,Nat.min_eq_left (by omega),Nat.add_sub_cancel_left,List.getElem?_append_left (by omega),hv]
  . rw [List.getElem?_set_ne (Ne.symm hk)] at hx
    obtain ⟨h1,h2⟩:=hr.2 k x hx
    refine ⟨h1,fun j c hc=>?_⟩
    obtain ⟨v,hv,hv2⟩:=h2 j c hc
    refine ⟨v,?_,hv2⟩
    have hj : j < wd:=by rw [<- h1]; exact (List.getElem?_eq_some_iff.1 hc).1
    rcases Nat.lt_or_gt_of_ne hk with hlt | hgt
    . have : (k + 1) * wd <= i * wd:=Nat.mul_le_mul_right _ hlt
      rw [Nat.add_mul,Nat.one_mul] at this
      rw [List.getElem?_append_left (by simp; omega),List.getElem?_take_of_lt (by omega),hv]
    . have : (i + 1) * wd <= k * wd:=Nat.mul_le_mul_right _ hgt
      rw [Nat.add_mul,Nat.one_mul] at this
      rw [List.getElem?_append_right (by simp; omega),List.length_take,Nat.min_eq_left (by omega),List.getElem?_append_right (by omega),List.getElem?_drop,hvl]
      rw [<- hv]; congr 1; omega
theorem bsl_sound (e : Env) (wd : Nat) : ∀ (parts : List (Nat × Operand)) (xs : List (List SV)) (K : SV -> Prop),bslK e wd xs (parts.map fun p=>(p.1,cOpd p.2)) K ->
    ∃ ys : List (List SV), ys.length = xs.length ∧ K (.slc wd ys) ∧ ∀ (w : World) (A : Nat → Prop) (β : List (Option Nat)) (a : Act) (cs : List Value), Row w A wd xs cs → cs.length = xs.length * wd → (∀ p ∈ parts, Rep w A β (ev e (cOpd p.2)) (a.eval p.2)) →
      ∃ cs',Instr.fill (fun i=>some (i * wd,wd)) cs.toArray (parts.map fun p=>(p.1,a.eval p.2)) = some cs'.toArray /\ Row w A wd ys cs' /\ cs'.length = ys.length * wd
  | [],xs,K,h=>⟨xs,rfl,h,fun w A β a cs hr hl _=>⟨cs,rfl,hr,hl⟩⟩
  | p :: parts, xs, K, h => by
    simp only [List.map_cons,bslK] at h
    cases hc : cellsOf (ev e (cOpd p.2)) with
    | none=>simp [hc] at h
    | some fs =>
      simp only [hc] at h
      obtain ⟨hs,hi,hp,h⟩:=h
      obtain ⟨ys,hyl,hK,hrun⟩:=bsl_sound e wd parts _ K h
      refine ⟨ys,by simpa using hyl,hK,fun w A β a cs hrow hl hr=>?_⟩
      have hf:=cellsOf_reps hc (hr p (by simp))
      have hf' : Reps w A [] fs (a.eval p.2).cells.toList:=⟨hf.1,fun i f v h1 h2=>(hf.2 i f v h1 h2).purely (pureL_mem hp i f h1) _⟩
      have hvl : (a.eval p.2).cells.size = wd:=by rw [<- hs,<- hf.1]; simp
      have hb : p.1 * wd + wd <= cs.length:=by
        have : (p.1 + 1) * wd <= xs.length * wd:=Nat.mul_le_mul_right _ hi
        rw [Nat.add_mul,Nat.one_mul] at this
        omega
      obtain ⟨cs',h5,h6,h7⟩:=hrun w A β a _ (row_set hrow hf' hs hi) (by simp [hvl]; omega) fun q hq=>hr q (by simp [hq])
      refine ⟨cs',?_,h6,h7⟩
      simp only [List.map_cons,Instr.fill]
      rw [if_neg (by simp [hvl]; omega)]
      have:=foldl_set (a.eval p.2).cells.toList (p.1 * wd) 0 cs (by simp only [Array.length_toList,hvl]; omega)
      simp only [Nat.add_zero] at this
      rw [<- h5]
      congr 1
      rw [<- Array.foldl_toList,Array.toList_zipIdx]
      exact this
theorem row_zero {w : World} {A : Nat -> Prop} (n wd : Nat) (z : Array Value) (hz : z.size = wd) (_hw : 0 < wd) (_hp : SV.pure.pureL (z.toList.map ofVal1) = true) (m : Nat) (hm : n * wd <= m) :
    Row w A wd (List.replicate n (z.toList.map ofVal1)) ((Array.range m).map (z[· % z.size]!)).toList:=by
  refine ⟨by simp; omega,fun i x hx=>?_⟩
  have hi : i < n:=by
    have:=(List.getElem?_eq_some_iff.1 hx).1
    simpa using this
  have hx' : x = z.toList.map ofVal1:=by
    rw [List.getElem?_replicate_of_lt hi] at hx
    exact (Option.some.inj hx).symm
  subst hx'
  refine ⟨by simp [hz],fun j c hc=>?_⟩
  have hj : j < z.size:=by
    have:=(List.getElem?_eq_some_iff.1 hc).1
    simpa using this
  have hlt : i * wd + j < m:=by
    have : (i + 1) * wd <= n * wd:=Nat.mul_le_mul_right _ hi
    rw [Nat.add_mul,Nat.one_mul] at this
    omega
  have hmod : (i * wd + j) % z.size = j:=by
    rw [hz,Nat.mul_comm,Nat.mul_add_mod,Nat.mod_eq_of_lt (by omega)]
  refine ⟨z[j],?_,?_⟩
  . simp [hlt,hmod,hj]
  . have : c = ofVal1 z[j]:=by
      simp [hj] at hc
      exact hc.symm
    rw [this]
    exact ofVal1_rep _
theorem mem_of_row {w : World} {A : Nat -> Prop} {wd : Nat} {xs : List (List SV)} {cs : List Value} (hr : Row w A wd xs cs) {b : Nat} {T : TypeId} {fr : Nat × Nat} (hb : w.heap[b]? = some (.cells cs.toArray T fr)) (hA : ¬ A b) :
    ∃ vs,Mem w A b 0 wd xs vs /\ ∀ (i : Nat) (x : List SV) (j : Nat) (c : SV),xs[i]? = some x -> x[j]? = some c -> Rep w A [] c (vs (0 + i * wd + j)):=by
  refine ⟨fun k=>(cs[k]?).getD undef,⟨⟨cs.toArray,T,fr,hb,fun i x j hx hj=>?_⟩,hA,fun i x hx=>(hr.2 i x hx).1⟩,fun i x j c hx hc=>?_⟩
  . obtain ⟨h1,h2⟩:=hr.2 i x hx
    obtain ⟨v,hv,_⟩:=h2 j (x[j]'(by omega)) (by simp)
    simp [Nat.zero_add,hv]
  . obtain ⟨h1,h2⟩:=hr.2 i x hx
    obtain ⟨v,hv,hv2⟩:=h2 j c hc
    simpa [Nat.zero_add,hv] using hv2
theorem Row.mono {w w' : World} {A A' : Nat -> Prop} {wd : Nat} {xs : List (List SV)} {cs : List Value} (h : Row w A wd xs cs) (s : Stp A w w') (hA : ∀ b,b < w.heap.size -> A' b -> A b) : Row w' A' wd xs cs :=
  ⟨h.1,fun i x hx=>⟨(h.2 i x hx).1,fun j c hc=>by
    obtain ⟨v,h1,h2⟩:=(h.2 i x hx).2 j c hc
    exact ⟨v,h1,h2.mono s hA⟩⟩⟩
end
end
section
open Go.RowKit
section
variable {P : Program}
theorem eval_rep {w : World} {A : Nat -> Prop} {β : List (Option Nat)} {o : Oper} {e : Env} {a : Act} (hr : ∀ x,x ∈ o.op.operands -> Rep w A β (ev e (cOpd x)) (a.eval x)) {x : Operand} (hx : x ∈ o.op.operands) {s : SV} (h : ev e (cOpd x) = s) : Rep w A β s (a.eval x):=h ▸ hr x hx
theorem bsl_good {o : Oper} {t : TypeId} {len : Nat} {parts : Array (Nat × Operand)} (ho : o.op = .buildSlice t len parts) {op : IOp} {e : Env} {H : List Blk} {K : SV -> Prop} (hc : cop P o = some op) (h : pop P op e H K) : ∃ sv,K sv /\ Good P o e H sv:=by
  simp only [cop,ho] at hc
  cases hu : P.underlying t with
  | none=>simp [hu] at hc
  | some d =>
    cases d <;> simp only [hu,reduceCtorEq] at hc
    rename_i el
    cases hs : szOf P el with
    | none=>simp [hs] at hc
    | some s =>
      cases hz : zeroOf P el with
      | none=>simp [hs,hz] at hc
      | some z =>
        simp only [hs,hz] at hc
        split at hc
        . rename_i hcond
          obtain ⟨hzl,hs0,hlen⟩:=hcond
          cases hc
          obtain ⟨hpz,h⟩:=h
          obtain ⟨ys,hyl,hK,hrun⟩:=bsl_sound e s parts.toList (List.replicate len z) (fun sv=>K (bslEnd len sv)) h
          refine ⟨_,hK,fun w A β a hA hW hr=>?_⟩
          have hr' : ∀ x,x ∈ o.op.operands -> Rep w A β (ev e (cOpd x)) (a.eval x):=fun x hx=>ev_rep x fun t ht=>hr t (ht ▸ hx)
          obtain ⟨v,hv,hvz⟩:=run_zero (P:=P) hz
          have hvs : v.cells.size = s:=by rw [<- hzl,<- hvz]; simp
          subst hvz
          obtain ⟨cs',h5,h6,h7⟩:=hrun w A β a _ (row_zero len s v.cells hvs hs0 hpz (len * s) (Nat.le_refl _)) (by simp) fun p hp=>hr' p.2 (by simp only [ho,Op.operands]; simp; exact ⟨p.1,by simpa using hp⟩)
          have hb : (w.alloc (.cells cs'.toArray el)).heap[w.heap.size]? = some (.cells cs'.toArray el (0,0)):=World.alloc_heap_new _ _
          have hbel : Belo w.heap.size w (w.alloc (.cells cs'.toArray el)):=(Belo.refl _ _).alloc (Nat.le_refl _) _
          refine rel_value (w':=w.alloc (.cells cs'.toArray el)) (v:=.slice (some ⟨w.heap.size,0,none⟩) len len) ?_ ⟨hbel,?_⟩
          . have hp : (parts.map fun (i,x)=>(i,a.eval x)).toList = parts.toList.map fun p=>(p.1,a.eval p.2):=by simp
            rw [Array.toArray_toList] at h5
            rcases Nat.eq_zero_or_pos len with h0 | h0
            . subst h0
              have e0 : Array.map (fun x=>v.cells[x % v.cells.size]!) (Array.range (0 * s)) = #[]:=by rw [Nat.zero_mul]; simp [Array.range]
              have e1 : Array.map (fun x=>(#[] : Array Value)[x % (#[] : Array Value).size]!) (Array.range (0 * s)) = #[]:=by rw [Nat.zero_mul]; simp [Array.range]
              rw [e0] at h5
              simp only [execOp,ho,Instr.buildSlice,Sem.run_bind,run_under hu,Result.andThen_ok,run_size hs,hp]
              rw [if_neg (by omega),if_pos (by omega)]
              simp only [Sem.run_bind,Sem.run_pure,Result.andThen_ok]
              rw [e1,h5]
              simp [newRow]
            . have hne : ¬ len * s = 0:=by
                have:=Nat.mul_pos h0 hs0
                omega
              simp only [execOp,ho,Instr.buildSlice,Sem.run_bind,run_under hu,Result.andThen_ok,run_size hs,hp]
              rw [if_neg (by omega),if_neg hne]
              simp only [Sem.run_bind,hv,Sem.run_pure,Result.andThen_ok,h5]
              simp [newRow]
          . have hlt : ¬ A w.heap.size:=fun ha=>Nat.lt_irrefl _ (hA _ ha)
            obtain ⟨vs,hm,hvs'⟩:=mem_of_row (h6.mono (Stp.below hbel) fun _ _ h=>h) hb hlt
            have hyl' : ys.length = len:=by simpa using hyl
            have:=Rep.slc β s ys w.heap.size 0 ys.length vs hm (Nat.le_refl _) hvs'
            rw [hyl'] at this
            unfold bslEnd
            split
            . exact .nils _ _
            . exact this
        . cases hc
theorem ld_good {o : Oper} {t : TypeId} {x : Operand} (ho : o.op = .load t x) {op : IOp} {e : Env} {H : List Blk} {K : SV -> Prop} (hc : cop P o = some op) (h : pop P op e H K) : ∃ sv,K sv /\ Good P o e H sv:=by
  simp only [cop,ho] at hc
  cases hs : szOf P t with
  | none=>simp [hs] at hc
  | some s =>
    cases hag : aggOf P t with
    | none=>simp [hs,hag] at hc
    | some ag =>
      simp only [hs,hag,Option.some.injEq] at hc
      subst hc
      simp only [pop,ldK] at h
      have fin : ∀ {w : World} {A : Nat -> Prop} {β : List (Option Nat)} {a : Act} {sv : SV} {ad : Addr},a.eval x = .pointer (some ad) -> (∃ v,(loadVar t ad).run P w = .ok v w /\ Rep w A β sv v) -> ∃ v,(execOp a.eval o).run P w = .ok (.value v) w /\ Rep w A β sv v:=by
        intro w A β a sv ad he ⟨v,h1,h2⟩
        exact ⟨v,by simp [execOp,ho,Instr.loadAt,Instr.sureAddr,he,h1],h2⟩
      have hx : x ∈ o.op.operands:=by simp [ho,Op.operands]
      split at h
      . rename_i cells j he
        obtain ⟨sv,hK,hp⟩:=partK_ex h
        refine ⟨sv,hK,good_of fun w A β a hW hr=>?_⟩
        have hrep:=eval_rep hr hx he
        generalize hav : a.eval x = v at hrep
        cases hrep
        rename_i b off vs hm hcs
        refine fin hav ?_
        obtain ⟨⟨cs,T,fr,hb,hcell⟩,hA,_⟩:=hm
        obtain ⟨u,h1,h2⟩:=part_load hs hag (A:=A) (β:=[]) hp hb (base:=off) fun j c hc=>by
          have hj : j < cells.length:=(List.getElem?_eq_some_iff.1 hc).1
          have:=hcell 0 cells j (by simp) hj
          simp only [Nat.zero_mul,Nat.add_zero] at this
          exact ⟨_,this,hcs j c hc⟩
        exact ⟨u,h1,h2.more _ fun k b h=>by simp at h⟩
      . rename_i k wd i j he
        split at h
        . rename_i cells hk
          obtain ⟨sv,hK,hp⟩:=partK_ex h
          refine ⟨sv,hK,good_of fun w A β a hW hr=>?_⟩
          have hrep:=eval_rep hr hx he
          generalize hav : a.eval x = v at hrep
          cases hrep
          rename_i b hb
          refine fin hav ?_
          obtain ⟨cs,T,h1,h2,h3⟩:=hW.blk k (some b) _ hb hk
          have:=part_load hs hag (A:=A) (β:=β) hp h1 (base:=0) fun j c hc=>by
            have hj : j < cs.length:=by rw [h2]; exact (List.getElem?_eq_some_iff.1 hc).1
            exact ⟨cs[j],by simp [hj],h3 j c _ hc (by simp [hj])⟩
          simpa using this
        . rename_i wd' xs hk
          obtain ⟨rfl,x',hx',h⟩:=h
          obtain ⟨sv,hK,hp⟩:=partK_ex h
          refine ⟨sv,hK,good_of fun w A β a hW hr=>?_⟩
          have hrep:=eval_rep hr hx he
          generalize hav : a.eval x = v at hrep
          cases hrep
          rename_i b hb
          refine fin hav ?_
          obtain ⟨cs,T,h1,h2,h3⟩:=hW.blk k (some b) _ hb hk
          obtain ⟨hl,h4⟩:=h3 i x' hx'
          obtain ⟨u,h5,h6⟩:=part_load hs hag (A:=A) (β:=[]) hp h1 (base:=i * wd') fun j c hc=>by
            obtain ⟨v,h7,h8⟩:=h4 j c hc
            exact ⟨v,by simpa using h7,h8⟩
          exact ⟨u,h5,h6.more _ fun k b h=>by simp at h⟩
        . exact h.elim
      . exact h.elim
theorem fd_good {o : Oper} {t : TypeId} {x : Operand} {i : Nat} (ho : o.op = .field t x i) {op : IOp} {e : Env} {H : List Blk} {K : SV -> Prop} (hc : cop P o = some op) (h : pop P op e H K) : ∃ sv,K sv /\ Good P o e H sv:=by
  simp only [cop,ho] at hc
  split at hc
  . rename_i fields hu
    split at hc
    . rename_i f hf
      split at hc
      . rename_i s ag hs hag
        cases hc
        simp only [pop] at h
        split at h
        . rename_i fs he
          obtain ⟨sv,hK,hp⟩:=partK_ex h
          refine ⟨sv,hK,good_of fun w A β a hW hr=>?_⟩
          have hrep:=eval_rep hr (show x ∈ o.op.operands by simp [ho,Op.operands]) he
          generalize hav : a.eval x = v at hrep
          cases hrep
          rename_i vs hl hh
          obtain ⟨u,h1,h2⟩:=part_field (w:=w) hs hag hp ⟨hl,hh⟩
          exact ⟨u,by simp [execOp,ho,Instr.field,run_under hu,hf,hav,asAgg,h1],h2⟩
        . exact h.elim
      . cases hc
    . cases hc
  . cases hc
theorem fa_good {o : Oper} {t : TypeId} {x : Operand} {i : Nat} (ho : o.op = .fieldAddr t x i) {op : IOp} {e : Env} {H : List Blk} {K : SV -> Prop} (hc : cop P o = some op) (h : pop P op e H K) : ∃ sv,K sv /\ Good P o e H sv:=by
  simp only [cop,ho] at hc
  split at hc
  . rename_i fields hu
    split at hc
    . rename_i f hf
      obtain ⟨s,hs,hc⟩:=Option.bind_eq_some_iff.1 hc
      split at hc
      . cases hc
      . rename_i hs0
        cases hc
        have run : ∀ {w : World} {a : Act} {b off : Nat},a.eval x = .pointer (some ⟨b,off,none⟩) -> (execOp a.eval o).run P w = .ok (.value (.pointer (some ⟨b,off + f.offset,none⟩))) w:=by
          intro w a b off he
          simp [execOp,ho,Instr.fieldAt,run_under hu,hf,he,Instr.sureAddr,fieldPlace,run_size hs,hs0,addr_add]
        simp only [pop] at h
        split at h
        . rename_i k wd i j he
          refine ⟨_,h,good_of fun w A β a hW hr=>?_⟩
          have hrep:=eval_rep hr (show x ∈ o.op.operands by simp [ho,Op.operands]) he
          generalize hav : a.eval x = v at hrep
          cases hrep
          rename_i b hb
          exact ⟨_,run hav,by rw [Nat.add_assoc]; exact .ptr _ _ _ _ _ _ hb⟩
        . rename_i cells j he
          refine ⟨_,h,good_of fun w A β a hW hr=>?_⟩
          have hrep:=eval_rep hr (show x ∈ o.op.operands by simp [ho,Op.operands]) he
          generalize hav : a.eval x = v at hrep
          cases hrep
          rename_i b off vs hm hcs
          exact ⟨_,run hav,by rw [Nat.add_assoc]; exact .box _ _ _ _ _ vs hm hcs⟩
        . exact h.elim
    . cases hc
  . cases hc
end
end
end Go.Proofs.YtelbhbadkbcakaaGreat
