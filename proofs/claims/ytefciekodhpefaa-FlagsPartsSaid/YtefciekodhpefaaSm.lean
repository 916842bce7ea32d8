/- What is to be shown of code. -/
import Derived.Test.YtefciekodhpefaaSl
import Derived.Test.YtefciekodhpefaaSs
namespace Go.Proofs.Ytefciekodhpefaa
open Go.RowKit

inductive Ex where
  | normal
  | exit (id : Nat)
  | ret

def Ex.to : Ex → Exit
  | .normal => .normal
  | .exit id => .exit id
  | .ret => .ret

/-- The same, but that new blocks are all there. -/
def FOs (P : Program) (f : FuncId) (args : List SV) (res : SV) (Hn : List Blk) : Prop :=
  (∀ vs w, (callFunc f vs).run P w = .ok (.enter f vs) w) ∧
  ∀ (w : World) (A : Nat → Prop) (vs : List Value), (∀ b, A b → b < w.heap.size) → Reps w A [] args vs →
    Calls P f vs.toArray w fun e w' => ∃ (v : Value) (γ : List (Option Nat)), e = .returned v ∧ Below w.heap.size w w' ∧ WRel w' (fun b => A b ∨ some b ∈ γ) γ Hn ∧ (∀ b, some b ∈ γ → w.heap.size ≤ b) ∧ (∀ o ∈ γ, o.isSome = true) ∧ Rep w' (fun b => A b ∨ some b ∈ γ) γ res v

theorem FOs.fo {P : Program} {f : FuncId} {args : List SV} {res : SV} {Hn : List Blk} (h : FOs P f args res Hn) : FO P f args res Hn :=
  ⟨h.1, fun w A vs hA hr => (h.2 w A vs hA hr).mono fun _ _ ⟨v, γ, h1, h2, h3, h4, _, h6⟩ => ⟨v, γ, h1, h2, h3, h4, h6⟩⟩

/-- Two ways. -/
structure Br (b : Bool) (T F : Prop) : Prop where
  t : b = true → T
  f : b = false → F

theorem Br.tt {T F : Prop} (h : T) : Br true T F := ⟨fun _ => h, (fun h => nomatch h)⟩
theorem Br.ff {T F : Prop} (h : F) : Br false T F := ⟨(fun h => nomatch h), fun _ => h⟩
theorem Br.dec {p : Prop} [Decidable p] {T F : Prop} (h : p → T) (k : ¬ p → F) : Br (decide p) T F := ⟨fun e => h (of_decide_eq_true e), fun e => k (of_decide_eq_false e)⟩
theorem Br.neg {b : Bool} {T F : Prop} (h : Br b F T) : Br (!b) T F := ⟨fun e => h.f (by simpa using e), fun e => h.t (by simpa using e)⟩
theorem Br.beq {a b : Bool} {T F : Prop} (e : a = b) (h : T) : Br (a == b) T F := ⟨fun _ => h, fun h' => by subst e; simp at h'⟩
theorem Br.of {b : Bool} {T F : Prop} (e : b = true) (h : T) : Br b T F := ⟨fun _ => h, fun h' => by rw [e] at h'; cases h'⟩

def guardK (e : Env) (g : Option (Nat × Bool)) (run skip : Env → Prop) : Prop :=
  match g with
  | none => run e
  | some (t, want) => match look e t with
    | .bool b => match want with
      | true => Br b (run ((t, .bool true) :: e)) (skip ((t, .bool false) :: e))
      | false => Br b (skip ((t, .bool true) :: e)) (run ((t, .bool false) :: e))
    | .tup [] => skip e
    | _ => False

/-- In a region that draws its order, ahead of what writes: blocks may be made. -/
def dop (P : Program) (op : IOp) (e : Env) (H : List Blk) (K : SV → List Blk → Prop) : Prop :=
  match op with
  | .al z => K (.ptr H.length 0 0 0) [.vars z]
  | .bx x => match cellsOf (ev e x) with
    | some fs => K (.ptr H.length 0 0 0) [.vars fs]
    | none => False
  | .mk wd bytes z l c => asI (ev e l) fun l => asI (ev e c) fun c => 0 ≤ l ∧ l ≤ c ∧ (bytes : Int) * c ≤ 281474976710656 ∧ c ≤ 9223372036854775807 ∧ SV.pure.pureL z = true ∧ K (.osl H.length wd 0 l.toNat) [.arr wd (List.replicate l.toNat z)]
  | .call f args => match fnsOf (ev e f) with
    | some (g, caps) => (SV.pure.pureL (args.map (ev e) ++ caps) = true ∧ ∃ res, FS P g (args.map (ev e) ++ caps) res ∧ K res []) ∨ (SV.pure.pureL (args.map (ev e) ++ caps) = true ∧ ∃ res Hn, FOs P g (args.map (ev e) ++ caps) res Hn ∧ K (res.shift H.length) (shiftH H.length Hn)) ∨
        lendK P g (args.map (ev e) ++ caps) H fun res => K res []
    | none => False
  | op => pop P op e H fun sv => K sv []

/-- A thing's form is told ahead of what follows. -/
def fc (v : SV) (K : SV → Prop) : Prop :=
  match v with
  | .any => K .any
  | .int k x => K (.int k x)
  | .bool b => K (.bool b)
  | .str s => K (.str s)
  | .agg fs => K (.agg fs)
  | .tup fs => K (.tup fs)
  | .fn f caps => K (.fn f caps)
  | .nils => K .nils
  | .slc wd xs => K (.slc wd xs)
  | .box cells j => K (.box cells j)
  | .ptr k wd i j => K (.ptr k wd i j)
  | .osl k wd i n => K (.osl k wd i n)
  | .raw v => K (.raw v)
  | .anyb => K .anyb
theorem fc_eq (v : SV) (K : SV → Prop) : fc v K = K v := by cases v <;> rfl
def fl : List SV → (List SV → Prop) → Prop
  | [], K => K []
  | x :: xs, K => fc x fun x => fl xs fun xs => K (x :: xs)
theorem fl_eq : ∀ (xs : List SV) (K : List SV → Prop), fl xs K = K xs
  | [], _ => rfl
  | x :: xs, K => by rw [fl, fc_eq, fl_eq xs]
/-- The blocks are told ahead of what follows. -/
def fh : List Blk → (List Blk → Prop) → Prop
  | [], K => K []
  | b :: H, K => match b with
    | .dead => fh H fun H => K (.dead :: H)
    | .vars cs => fl cs fun cs => fh H fun H => K (.vars cs :: H)
    | .arr wd xs => fh H fun H => K (.arr wd xs :: H)
theorem fh_eq : ∀ (H : List Blk) (K : List Blk → Prop), fh H K = K H
  | [], _ => rfl
  | b :: H, K => by
    cases b with
    | dead => rw [fh, fh_eq H]
    | vars cs => rw [fh, fl_eq, fh_eq H]
    | arr wd xs => rw [fh, fh_eq H]
/-- Operations behind which the blocks may be others. -/
def IOp.moves : IOp → Bool
  | .st .. | .ap .. | .cp .. | .al .. | .bx .. | .mk .. | .call .. => true
  | _ => false
def fhi (op : IOp) (H : List Blk) (K : List Blk → Prop) : Prop :=
  match op.moves with
  | true => fh H K
  | false => K H
theorem fhi_eq (op : IOp) (H : List Blk) (K : List Blk → Prop) : fhi op H K = K H := by
  unfold fhi; cases op.moves
  · rfl
  · exact fh_eq H K

/-- New blocks, told ahead of what follows. -/
def fhj (H Hn : List Blk) (K : List Blk → Prop) : Prop :=
  match Hn with
  | [] => K H
  | b :: t => fh (H ++ (b :: t)) K
theorem fhj_eq (H Hn : List Blk) (K : List Blk → Prop) : fhj H Hn K = K (H ++ Hn) := by
  cases Hn with
  | nil => rw [List.append_nil]; rfl
  | cons b t => exact fh_eq _ _

abbrev DT := Env → List Blk → (Env → List Blk → Prop) → Prop
def dvcN : DT := fun e H K => K e H
def dvcC (P : Program) (i : Ins) (_ : List Ins) (ih : DT) : DT := fun e H K => guardK e i.guard (fun e => dop P i.op e H fun sv Hn => fc sv fun sv => fhj H Hn fun H => ih (setE e i.dst sv) H K) (fun e => ih (setE e i.dst (.tup [])) H K)
def dvc (P : Program) (ops : List Ins) : DT := @List.rec Ins (fun _ => DT) dvcN (dvcC P) ops
theorem dvc_nil_eq {P : Program} {e : Env} {H : List Blk} {K : Env → List Blk → Prop} : dvc P [] e H K = K e H := rfl
theorem dvc_cons_eq {P : Program} {i : Ins} {is : List Ins} {e : Env} {H : List Blk} {K : Env → List Blk → Prop} : dvc P (i :: is) e H K = guardK e i.guard (fun e => dop P i.op e H fun sv Hn => fc sv fun sv => fhj H Hn fun H => dvc P is (setE e i.dst sv) H K) (fun e => dvc P is (setE e i.dst (.tup [])) H K) := rfl

/-! ### Iterators -/

/-- An iterator's own step, between two calls of yield. Bi: what it may write; A: what may be written by whom ever. -/
structure ItStep (Bi A : Nat → Prop) (W : World) (Bi' A' : Nat → Prop) (W' : World) : Prop where
  os : W'.os = W.os
  tape : W'.tape = W.tape
  output : W'.output = W.output
  size : W.heap.size ≤ W'.heap.size
  keep : ∀ b, b < W.heap.size → ¬ Bi b → W'.heap[b]? = W.heap[b]?
  shp : ∀ (b : Nat) (cs : Array Value) (T : TypeId) (fr : Nat × Nat), W.heap[b]? = some (.cells cs T fr) → ∃ (cs' : Array Value) (fr' : Nat × Nat), W'.heap[b]? = some (.cells cs' T fr') ∧ cs'.size = cs.size
  agree : ∀ b, b < W.heap.size → (A' b ↔ A b)
  fin : ∀ b, A' b → b < W'.heap.size
  sub : ∀ b, Bi' b → Bi b ∨ W.heap.size ≤ b
  own : ∀ b, Bi' b → A' b

/-- What a call of yield does to the world. -/
structure RoundStep (Bi A : Nat → Prop) (W : World) (A' : Nat → Prop) (W' : World) : Prop where
  stp : Stp A W W'
  bi : ∀ b, Bi b → W'.heap[b]? = W.heap[b]?
  agree : ∀ b, b < W.heap.size → (A' b ↔ A b)
  fin : ∀ b, A' b → b < W'.heap.size

/-- The contract of an iterator: it hands xs over, one after the other, as long as yield says so; then it returns. -/
def IT (P : Program) (g : FuncId) (caps : List SV) (Hc : List Blk) (xs : List (List SV)) : Prop :=
  (∀ vs w, (callFunc g vs).run P w = .ok (.enter g vs) w) ∧
  ∀ (l : Nat) (w : World) (A : Nat → Prop) (β : List (Option Nat)) (vs : List Value) (J : Option Nat → (Nat → Prop) → (Nat → Prop) → World → Prop), (∀ b, A b → b < w.heap.size) → WRel w A β Hc → Reps w A β caps vs →
    J (some 0) (fun b => some b ∈ β) A w →
    (∀ g Bi A W Bi' A' W', J g Bi A W → ItStep Bi A W Bi' A' W' → J g Bi' A' W') →
    (∀ (i : Nat) (x : List SV) (us : List Value) (Bi A : Nat → Prop) (W : World), xs[i]? = some x → J (some i) Bi A W → (∀ b, A b → b < W.heap.size) → (∀ b, Bi b → A b) → Reps W A [] x us →
      ∃ (fn : FuncId) (tmps : Array Value) (assign body : Code), (Instr.yield l us.toArray).run P W = .ok (.round l fn tmps assign body) W ∧
        RoundIn Fence.wide 0 P l fn tmps assign body W fun e W' => ∃ (b : Bool) (A' : Nat → Prop), e = .returned (.bool b) ∧ J (if b then some (i + 1) else none) Bi A' W' ∧ RoundStep Bi A W A' W') →
    Calls P g (.func (.yield l) #[] #[] :: vs).toArray w fun e w' => ∃ (v : Value) (g : Option Nat) (Bi A' : Nat → Prop), e = .returned v ∧ (g = some xs.length ∨ g = none) ∧ J g Bi A' w'

/-- Whether a range over a function may stand here; what yield is to be called with. -/
structure Yv where
  out : Bool
  l : Nat
  xs : List (List SV)

def yldOf : SV → Option Nat
  | .raw (.func (.yield l) a b) => match a.toList, b.toList with
    | [], [] => some l
    | _, _ => none
  | _ => none

def isYld (op : IOp) (e : Env) : Option (Nat × List SV) :=
  match op with
  | .call f args => match yldOf (ev e f) with
    | some l => some (l, args.map (ev e))
    | none => none
  | _ => none

def yop (P : Program) (M : Nat) (ks : List Nat) (y : Yv) (op : IOp) (e : Env) (H : List Blk) (g : Option Nat) (K : SV → Env → List Blk → Option Nat → Prop) : Prop :=
  match isYld op e with
  | some (l, as) => y.out = false ∧ l = y.l ∧ SV.pure.pureL as = true ∧ ∃ i, g = some i ∧ y.xs[i]? = some as ∧ K (.bool true) e H (some (i + 1)) ∧ K (.bool false) e H none
  | none => xop P M ks op e H fun sv e H => K sv e H g

abbrev RT := Env → List Blk → Option Nat → (Env → List Blk → Option Nat → Prop) → Prop
def rvcN : RT := fun e H g K => K e H g
def rvcC (P : Program) (M : Nat) (ks : List Nat) (y : Yv) (i : Ins) (_ : List Ins) (ih : RT) : RT := fun e H g K => guardK e i.guard (fun e => yop P M ks y i.op e H g fun sv e H g => fc sv fun sv => fhi i.op H fun H => ih (setE e i.dst sv) H g K) (fun e => ih (setE e i.dst (.tup [])) H g K)
def rvc (P : Program) (M : Nat) (ks : List Nat) (y : Yv) (ops : List Ins) : RT := @List.rec Ins (fun _ => RT) rvcN (rvcC P M ks y) ops
theorem rvc_nil_eq {P : Program} {M : Nat} {ks : List Nat} {y : Yv} {e : Env} {H : List Blk} {g : Option Nat} {K : Env → List Blk → Option Nat → Prop} : rvc P M ks y [] e H g K = K e H g := rfl
theorem rvc_cons_eq {P : Program} {M : Nat} {ks : List Nat} {y : Yv} {i : Ins} {is : List Ins} {e : Env} {H : List Blk} {g : Option Nat} {K : Env → List Blk → Option Nat → Prop} : rvc P M ks y (i :: is) e H g K = guardK e i.guard (fun e => yop P M ks y i.op e H g fun sv e H g => fc sv fun sv => fhi i.op H fun H => rvc P M ks y is (setE e i.dst sv) H g K) (fun e => rvc P M ks y is (setE e i.dst (.tup [])) H g K) := rfl

def setB (e : Env) (c : Opd) (b : Bool) : Env :=
  match c with
  | .t n => (n, .bool b) :: e
  | .c _ => e

/-- What stands for something may stand for less. m: names from m on are new, of slices that are nil yet. -/
def leV (m : Nat) (x y : SV) : Prop :=
  match y with
  | .any => True
  | .osl k wd i n => match x with
    | .nils => m ≤ k ∧ i = 0 ∧ n = 0
    | _ => x = .osl k wd i n
  | .slc wd xs => match x with
    | .nils => xs = []
    | _ => x = .slc wd xs
  | y => x = y
def leE (m : Nat) (e : Env) : Env → Prop
  | [] => True
  | (t, y) :: e' => leV m (look e t) y ∧ leE m e e'
def leL (m : Nat) : List SV → List SV → Prop
  | [], [] => True
  | x :: xs, y :: ys => leV m x y ∧ leL m xs ys
  | _, _ => False
def leB (m : Nat) (x y : Blk) : Prop :=
  match y with
  | .dead => True
  | .vars ys => match x with
    | .vars xs => leL m xs ys
    | _ => False
  | .arr wd ys => x = .arr wd ys
def leH (m : Nat) : List Blk → List Blk → Prop
  | [], [] => True
  | x :: xs, y :: ys => leB m x y ∧ leH m xs ys
  | [], .arr _ xs :: ys => xs = [] ∧ leH m [] ys
  | _, _ => False

/-- A loop: what holds at the head of each round, for some value of x; a measure that each round lowers. -/
def LoopP (e : Env) (H : List Blk) (g : Option Nat) (K : Ex → Env → List Blk → Option Nat → Prop) (body : Env → List Blk → Option Nat → (Ex → Env → List Blk → Option Nat → Prop) → Prop) : Prop :=
  ∃ (α : Type) (ok : α → Prop) (S : α → Env) (SH : α → List Blk) (Sg : α → Option Nat) (μ : α → Nat), (∃ x, ok x ∧ leE H.length e (S x) ∧ leH H.length H (SH x) ∧ g = Sg x) ∧
    ∀ x, ok x → body (S x) (SH x) (Sg x) fun ex e' H' g' => match ex with
      | .normal => ∃ y, ok y ∧ μ y < μ x ∧ leE H'.length e' (S y) ∧ leH H'.length H' (SH y) ∧ g' = Sg y
      | ex => K ex e' H' g'

/-- Names of an iterator's own blocks, as the caller knows them. -/
def renV (sel : List Nat) : SV → SV
  | .ptr k wd i j => .ptr (sel.getD k 0) wd i j
  | .osl k wd i n => .osl (sel.getD k 0) wd i n
  | x => x
def okCap (m : Nat) : SV → Bool
  | .ptr k .. => decide (k < m)
  | .osl k .. => decide (k < m)
  | x => x.pure
def okBlk : Blk → Bool
  | .vars cs => SV.pure.pureL cs
  | _ => true
/-- The blocks that are handed over. -/
def deadHs : List Nat → List Blk → List Blk
  | [], H => H
  | k :: ks, H => deadHs ks ((killH k H).set k .dead)
def bindE : List Nat → List SV → Env → Env
  | p :: ps, x :: xs, e => bindE ps xs ((p, x) :: e)
  | _, _, e => e
def noY : Yv := ⟨false, 0, []⟩

def RngP (P : Program) (M : Nat) (ks : List Nat) (y : Yv) (f : SV) (ps : List Nat) (e : Env) (H : List Blk) (g : Option Nat) (K : Ex → Env → List Blk → Option Nat → Prop)
    (assign body : Nat → List Nat → Env → List Blk → (Ex → Env → List Blk → Option Nat → Prop) → Prop) : Prop :=
  match fnsOf f with
  | some (gf, caps) => y.out = true ∧ ∃ (sel kl : List Nat) (caps' : List SV) (Hc : List Blk) (xs : List (List SV)) (SH : Nat → List Blk) (ok : Nat → Prop),
      IT P gf caps' Hc xs ∧ caps'.map (renV sel) = caps ∧ caps'.all (okCap sel.length) = true ∧ sel.map (fun k => H[k]?) = Hc.map some ∧ Hc.all okBlk = true ∧ sel.Nodup ∧ (∀ k, k ∈ sel ∨ k ∈ kl → M ≤ k ∨ k ∈ ks) ∧
      leH H.length (deadHs sel H) (SH 0) ∧ ok 0 ∧
      (∀ (i : Nat) (x : List SV), xs[i]? = some x → ok i → x.length = ps.length ∧
        assign H.length kl (bindE ps x (killEs kl (killEs sel e))) (SH i) fun ex e' H' _ => match ex with
          | .normal => body H.length kl e' H' fun ex _ H'' _ => match ex with
            | .normal => ok (i + 1) ∧ leH H''.length H'' (SH (i + 1))
            | ex => K ex (killEs kl (killEs sel e)) H'' g
          | _ => False) ∧
      (ok xs.length → K .normal (killEs kl (killEs sel e)) (SH xs.length) g)
  | none => False

abbrev CT := Nat → List Nat → Yv → Env → List Blk → Option Nat → (Ex → Env → List Blk → Option Nat → Prop) → Prop
def cvcSkip : CT := fun _ _ _ e H g K => K .normal e H g
def cvcReg (P : Program) (ops : List Ins) : CT := fun M ks y e H g K => rvc P M ks y ops e H g (K .normal)
def cvcDraw (P : Program) (hd tl : List Ins) : CT := fun M ks y e H g K => dvc P hd e H fun e H => rvc P M ks y tl e H g (K .normal)
def cvcSeq (_ _ : IR) (a b : CT) : CT := fun M ks y e H g K => a M ks y e H g fun ex e H g => match ex with
    | .normal => b M ks y e H g K
    | ex => K ex e H g
def cvcCond (c : Opd) (_ _ : IR) (a b : CT) : CT := fun M ks y e H g K => match ev e c with
    | .bool t => Br t (a M ks y (setB e c true) H g K) (b M ks y (setB e c false) H g K)
    | .anyb => a M ks y (setB e c true) H g K ∧ b M ks y (setB e c false) H g K
    | _ => False
def cvcBlock (id : Nat) (_ : IR) (a : CT) : CT := fun M ks y e H g K => a M ks y e H g fun ex e H g => match ex with
    | .exit i => if i = id then K .normal e H g else K (.exit i) e H g
    | ex => K ex e H g
def cvcLoop (_ : IR) (a : CT) : CT := fun M ks y e H g K => LoopP e H g K fun e H g K => a M ks y e H g K
def cvcExit (id : Nat) : CT := fun _ _ _ e H g K => K (.exit id) e H g
def cvcRet : CT := fun _ _ _ e H g K => K .ret e H g
def cvcRng (P : Program) (f : Opd) (ps : List Nat) (_ _ : IR) (a b : CT) : CT := fun M ks y e H g K => RngP P M ks y (ev e f) ps e H g K (fun M ks e H K => a M ks noY e H none K) (fun M ks e H K => b M ks noY e H none K)
def cvcR (P : Program) (ir : IR) : CT := @IR.rec (fun _ => CT) cvcSkip (cvcReg P) (cvcDraw P) cvcSeq cvcCond cvcBlock cvcLoop cvcExit cvcRet (cvcRng P) ir
def cvc (P : Program) (M : Nat) (ks : List Nat) (y : Yv) (ir : IR) (e : Env) (H : List Blk) (g : Option Nat) (K : Ex → Env → List Blk → Option Nat → Prop) : Prop := cvcR P ir M ks y e H g K
section
variable {P : Program} {M : Nat} {ks : List Nat} {y : Yv} {e : Env} {H : List Blk} {g : Option Nat} {K : Ex → Env → List Blk → Option Nat → Prop}
theorem cvc_cond_eq {c : Opd} {a b : IR} : cvc P M ks y (.cond c a b) e H g K = (match ev e c with
    | .bool t => Br t (cvc P M ks y a (setB e c true) H g K) (cvc P M ks y b (setB e c false) H g K)
    | .anyb => cvc P M ks y a (setB e c true) H g K ∧ cvc P M ks y b (setB e c false) H g K
    | _ => False) := rfl
theorem cvc_rng_eq {f : Opd} {ps : List Nat} {a b : IR} : cvc P M ks y (.rng f ps a b) e H g K = RngP P M ks y (ev e f) ps e H g K (fun M ks e H K => cvc P M ks noY a e H none K) (fun M ks e H K => cvc P M ks noY b e H none K) := rfl
end

end Go.Proofs.Ytefciekodhpefaa
