/- The walk's own language: what a function's code comes to, and what is to be shown of it. -/
import Derived.Test.YtefciekodhpefaaSa
namespace Go.Proofs.Ytefciekodhpefaa
open Go.RowKit

inductive Opd where
  | t (n : Nat)
  | c (s : SV)
  deriving Inhabited

/-- An operation, with what it must know of its types. -/
inductive IOp where
  | mv (x : Opd)
  | pick (c a b : Opd)
  | ck (x : Opd)
  | bin (o : BinOp) (x y : Opd)
  | beq (neg : Bool) (x y : Opd)
  | seq (neg : Bool) (x y : Opd)
  | eqv (neg : Bool) (t : TypeId) (x y : Opd)
  | isn (neg : Bool) (x : Opd)
  | un (o : UnOp) (x : Opd)
  | cv (k : IntKind) (x : Opd)
  | fn (f : FuncId) (caps : List Opd)
  | bld (z : List SV) (parts : List (Nat × Nat × Opd))
  | bsl (len wd : Nat) (z : List SV) (parts : List (Nat × Opd))
  | ld (s : Nat) (ag : Bool) (x : Opd)
  | fa (off : Nat) (x : Opd)
  | fd (off s : Nat) (ag : Bool) (x : Opd)
  | ia (wd : Nat) (x i : Opd)
  | iaA (n wd : Nat) (x i : Opd)
  | ix (n wd : Nat) (ag : Bool) (x i : Opd)
  | ex (i : Nat) (x : Opd)
  | ln (x : Opd)
  | lnA (n : Nat) (x : Opd)
  | sl (wd : Nat) (x : Opd) (lo hi mx : Option Opd)
  | mm (mx : Bool) (xs : List Opd)
  | call (f : Opd) (args : List Opd)
  | al (z : List SV)
  | bx (x : Opd)
  | mk (wd bytes : Nat) (z : List SV) (l c : Opd)
  | st (s : Nat) (x v : Opd)
  | ap (wd bytes : Nat) (x y : Opd)
  | cp (wd : Nat) (x y : Opd)
  | oth (o : Oper)
  deriving Inhabited

/-- What it writes; when it runs at all (a slot that must hold that truth). -/
structure Ins where
  dst : Option Nat
  op : IOp
  guard : Option (Nat × Bool)
  deriving Inhabited

inductive IR where
  | skip
  | reg (ops : List Ins)
  | draw (hd tl : List Ins)
  | seq (a b : IR)
  | cond (c : Opd) (a b : IR)
  | block (id : Nat) (a : IR)
  | loop (a : IR)
  | exit (id : Nat)
  | ret
  | rng (f : Opd) (ps : List Nat) (assign body : IR)
  deriving Inhabited

/-! ### From the code -/

def ofVal1 : Value → SV
  | .int k n => .int k n
  | .bool b => .bool b
  | .string s => .str s.data.toList
  | .slice none 0 0 => .nils
  | v => .raw v

def ofVal : Value → SV
  | .agg cs => .agg (cs.toList.map ofVal1)
  | .tuple vs => .tup (vs.toList.map ofVal1)
  | v => ofVal1 v

def cOpd : Operand → Opd
  | .tmp t => .t t
  | .const v => .c (ofVal v)
  | .global g => .c (.raw (.pointer (some ⟨g, 0, none⟩)))
  | .func f => .c (.fn f [])

section
variable (P : Program)

def szOf (t : TypeId) : Option Nat := (P.info? t).map (·.size)
def zeroOf (t : TypeId) : Option (List SV) := ((P.info? t).bind (·.zero)).map fun v => v.cells.toList.map ofVal1
def aggOf (t : TypeId) : Option Bool := (P.underlying t).map fun | .struct _ => true | .array _ _ => true | _ => false

def partOf (places : List (Nat × Nat)) (p : Nat × Operand) : Option (Nat × Nat × Opd) := (places[p.1]?).map fun q => (q.1, q.2, cOpd p.2)
def placesOf (fields : Array Field) : Option (List (Nat × Nat)) := fields.toList.mapM (fun f => (P.info? f.type).map fun i => (f.offset, i.size))

def isNilS : Operand → Bool
  | .const (.slice none 0 0) => true
  | _ => false

def cop (o : Oper) : Option IOp :=
  match o.op with
  | .move x | .assign x => some (.mv (cOpd x))
  | .pick c a b => some (.pick (cOpd c) (cOpd a) (cOpd b))
  | .alloc e => (zeroOf P e).map .al
  | .box _ x => some (.bx (cOpd x))
  | .build t parts =>
    match zeroOf P t, P.underlying t with
    | some z, some (.struct fields) =>
      match placesOf P fields with
      | some places => (parts.toList.mapM (partOf places)).map (.bld z ·)
      | none => none
    | some z, some (.array _ e) => (szOf P e).map fun s => .bld z (parts.toList.map fun (i, x) => (i * s, s, cOpd x))
    | _, _ => none
  | .buildSlice t len parts =>
    match P.underlying t with
    | some (.slice e) =>
      match szOf P e, zeroOf P e with
      | some s, some z => if z.length = s ∧ 0 < s ∧ len * s ≤ 1000 then some (.bsl len s z (parts.toList.map fun (i, x) => (i, cOpd x))) else none
      | _, _ => none
    | _ => none
  | .load t a =>
    match szOf P t, aggOf P t with
    | some s, some ag => some (.ld s ag (cOpd a))
    | _, _ => none
  | .store t a v => (szOf P t).map fun s => .st s (cOpd a) (cOpd v)
  | .nilCheck x => some (.ck (cOpd x))
  | .binOp op t x y _ =>
    match op, P.underlying t with
    | .eql, some .bool => some (.beq false (cOpd x) (cOpd y))
    | .neq, some .bool => some (.beq true (cOpd x) (cOpd y))
    | .eql, some .string => some (.seq false (cOpd x) (cOpd y))
    | .neq, some .string => some (.seq true (cOpd x) (cOpd y))
    | .eql, some (.struct _) | .eql, some (.array _ _) => some (.eqv false t (cOpd x) (cOpd y))
    | .neq, some (.struct _) | .neq, some (.array _ _) => some (.eqv true t (cOpd x) (cOpd y))
    | .eql, some (.slice _) => if isNilS y then some (.isn false (cOpd x)) else some (.oth o)
    | .neq, some (.slice _) => if isNilS y then some (.isn true (cOpd x)) else some (.oth o)
    | op, some (.int _) => some (.bin op (cOpd x) (cOpd y))
    | _, _ => some (.oth o)
  | .unOp op _ x => some (.un op (cOpd x))
  | .convert s d x =>
    match P.underlying s, P.underlying d with
    | some _, some (.int k) => some (.cv k (cOpd x))
    | _, _ => some (.oth o)
  | .makeFunc (.func f) first caps => if first = #[] then some (.fn f (caps.toList.map cOpd)) else none
  | .fieldAddr t x i =>
    match P.underlying t with
    | some (.struct fields) =>
      match fields[i]? with
      | some f => (szOf P f.type).bind fun s => if s = 0 then none else some (.fa f.offset (cOpd x))
      | none => none
    | _ => none
  | .field t x i =>
    match P.underlying t with
    | some (.struct fields) =>
      match fields[i]? with
      | some f =>
        match szOf P f.type, aggOf P f.type with
        | some s, some ag => some (.fd f.offset s ag (cOpd x))
        | _, _ => none
      | none => none
    | _ => none
  | .indexAddr t x i =>
    match P.underlying t with
    | some (.slice e) => (szOf P e).map fun s => .ia s (cOpd x) (cOpd i)
    | some (.array n e) => (szOf P e).map fun s => .iaA n s (cOpd x) (cOpd i)
    | _ => none
  | .index t x i =>
    match P.underlying t with
    | some (.array n e) =>
      match szOf P e, aggOf P e with
      | some s, some ag => some (.ix n s ag (cOpd x) (cOpd i))
      | _, _ => none
    | _ => some (.oth o)
  | .extract x i => some (.ex i (cOpd x))
  | .makeSlice t l c =>
    match P.underlying t with
    | some (.slice e) =>
      match P.info? e, zeroOf P e with
      | some i, some z => if z.length = i.size ∧ 0 < i.size then some (.mk i.size i.bytes z (cOpd l) (cOpd c)) else none
      | _, _ => none
    | _ => none
  | .slice t x lo hi mx =>
    match P.underlying t with
    | some (.slice e) => (szOf P e).map fun s => .sl s (cOpd x) (lo.map cOpd) (hi.map cOpd) (mx.map cOpd)
    | _ => some (.oth o)
  | .call c =>
    match c.callee with
    | .value f => some (.call (cOpd f) (c.args.toList.map cOpd))
    | .invoke _ _ => none
    | .builtin b =>
      match b, c.args.toList, c.argTypes.toList.map P.underlying with
      | .len, [x], [some (.slice _)] => some (.ln (cOpd x))
      | .len, [x], [some (.array n _)] => some (.lnA n (cOpd x))
      | .max, xs, _ => some (.mm true (xs.map cOpd))
      | .min, xs, _ => some (.mm false (xs.map cOpd))
      | .append, [x, y], [some (.slice e), some (.slice _)] =>
        match P.info? e, zeroOf P e with
        | some i, some z => if z.length = i.size ∧ 0 < i.size then some (.ap i.size i.bytes (cOpd x) (cOpd y)) else none
        | _, _ => none
      | .copy, [x, y], [some (.slice e), some (.slice _)] =>
        match szOf P e with
        | some s => if 0 < s then some (.cp s (cOpd x) (cOpd y)) else none
        | none => none
      | _, _, _ => some (.oth o)
  | .defer _ => none
  | _ => some (.oth o)

def guardOf (ops : Array Oper) (N : Nat) : Option (Nat × Bool) → Option (Option (Nat × Bool))
  | none => some none
  | some (j, want) => match (ops[j]?).bind (·.dst) with
    | some t => if t < N then some (some (t, want)) else none
    | none => none

def cIns (ops : Array Oper) (N : Nat) (o : Oper) : Option Ins :=
  match cop P o, guardOf ops N o.guard with
  | some i, some g => if o.dst.all (· < N) then some ⟨o.dst, i, g⟩ else none
  | _, _ => none

/-- Operations that turn nothing that was there. -/
def IOp.still : IOp → Bool
  | .st .. | .ap .. | .cp .. => false
  | _ => true

def headLen (ops : List Ins) : Nat := (ops.takeWhile fun i => i.op.still).length

def comp (N : Nat) : Code → Option IR
  | .skip => some .skip
  | .region _ ops false => (ops.toList.mapM (cIns P ops N)).map .reg
  | .region _ ops true => (ops.toList.mapM (cIns P ops N)).map fun l => .draw (l.take (headLen l)) (l.drop (headLen l))
  | .seq a b => match comp N a, comp N b with
    | some x, some y => some (.seq x y)
    | _, _ => none
  | .cond c a b => match comp N a, comp N b with
    | some x, some y => some (.cond (cOpd c) x y)
    | _, _ => none
  | .block id a => (comp N a).map (.block id ·)
  | .loop a => (comp N a).map .loop
  | .exit id => some (.exit id)
  | .scope a => comp N a
  | .label _ => some .skip
  | .goto _ => none
  | .ret => some .ret
  | .refuse _ => none
  | .rangeFunc f ps assign body => match comp N assign, comp N body with
    | some x, some y => if ps.all (· < N) then some (.rng (cOpd f) ps.toList x y) else none
    | _, _ => none

end

/-! ### What is to be shown -/

abbrev Env := List (Nat × SV)
def look : Env → Nat → SV
  | [], _ => .any
  | (k, v) :: e, t => if k = t then v else look e t
def ev (e : Env) : Opd → SV
  | .t n => look e n
  | .c s => s
def setE (e : Env) (d : Option Nat) (v : SV) : Env :=
  match d with
  | some d => (d, v) :: e
  | none => e

structure St where
  env : Env
  H : List Blk

def inK : IntKind → Int → Prop
  | .i64, z => -9223372036854775808 ≤ z ∧ z ≤ 9223372036854775807
  | .u64, z => 0 ≤ z ∧ z ≤ 18446744073709551615
  | .i32, z => -2147483648 ≤ z ∧ z ≤ 2147483647
  | .u32, z => 0 ≤ z ∧ z ≤ 4294967295
  | .i16, z => -32768 ≤ z ∧ z ≤ 32767
  | .u16, z => 0 ≤ z ∧ z ≤ 65535
  | .i8, z => -128 ≤ z ∧ z ≤ 127
  | .u8, z => 0 ≤ z ∧ z ≤ 255

/-- z', z brought into its kind. -/
def Ar (k : IntKind) (z z' : Int) : Prop := (inK k z ∧ z' = z) ∨ z' = k.wrap z
def arK (k : IntKind) (z : Int) (K : SV → Prop) : Prop := ∃ z', Ar k z z' ∧ K (.int k z')

def bAnd (k : IntKind) (x y : Int) : Int := k.wrap (BitVec.ofInt k.bits x &&& BitVec.ofInt k.bits y).toNat
def bOr (k : IntKind) (x y : Int) : Int := k.wrap (BitVec.ofInt k.bits x ||| BitVec.ofInt k.bits y).toNat
def bXor (k : IntKind) (x y : Int) : Int := k.wrap (BitVec.ofInt k.bits x ^^^ BitVec.ofInt k.bits y).toNat
def bAndNot (k : IntKind) (x y : Int) : Int := k.wrap (BitVec.ofInt k.bits x &&& ~~~(BitVec.ofInt k.bits y)).toNat

def intK (o : BinOp) (k k' : IntKind) (a b : Int) (K : SV → Prop) : Prop :=
  match o with
  | .add => k = k' ∧ arK k (a + b) K
  | .sub => k = k' ∧ arK k (a - b) K
  | .mul => k = k' ∧ arK k (a * b) K
  | .quo => k = k' ∧ b ≠ 0 ∧ arK k (a.tdiv b) K
  | .rem => k = k' ∧ b ≠ 0 ∧ K (.int k (a.tmod b))
  | .and => k = k' ∧ K (.int k (bAnd k a b))
  | .or => k = k' ∧ K (.int k (bOr k a b))
  | .xor => k = k' ∧ K (.int k (bXor k a b))
  | .andNot => k = k' ∧ K (.int k (bAndNot k a b))
  | .shl => 0 ≤ b ∧ arK k (a * 2 ^ (min b.toNat k.bits)) K
  | .shr => 0 ≤ b ∧ K (.int k (a / 2 ^ (min b.toNat k.bits)))
  | .eql => k = k' ∧ K (.bool (decide (a = b)))
  | .neq => k = k' ∧ K (.bool (decide (a ≠ b)))
  | .lss => k = k' ∧ K (.bool (decide (a < b)))
  | .leq => k = k' ∧ K (.bool (decide (a ≤ b)))
  | .gtr => k = k' ∧ K (.bool (decide (b < a)))
  | .geq => k = k' ∧ K (.bool (decide (b ≤ a)))

def binK (o : BinOp) (x y : SV) (K : SV → Prop) : Prop :=
  match x, y with
  | .int k a, .int k' b => intK o k k' a b K
  | _, _ => False

def unK (o : UnOp) (x : SV) (K : SV → Prop) : Prop :=
  match o, x with
  | .neg, .int k a => arK k (0 - a) K
  | .xor, .int k a => K (.int k (bXor k (if k.signed then -1 else k.max) a))
  | .not, .bool b => K (.bool !b)
  | _, _ => False

def partK (s : Nat) (ag : Bool) (cells : List SV) (o : Nat) (K : SV → Prop) : Prop :=
  match ag with
  | true => o + s ≤ cells.length ∧ K (.agg ((cells.drop o).take s))
  | false => match cells[o]? with
    | some c => K c
    | none => False

def ldK (s : Nat) (ag : Bool) (p : SV) (H : List Blk) (K : SV → Prop) : Prop :=
  match p with
  | .box cells j => partK s ag cells j K
  | .ptr k wd i j => match H[k]? with
    | some (.vars cells) => partK s ag cells (i * wd + j) K
    | some (.arr wd' xs) => wd' = wd ∧ ∃ x, xs[i]? = some x ∧ partK s ag x j K
    | _ => False
  | _ => False

def asI : SV → (Int → Prop) → Prop
  | .int _ i, K => K i
  | _, _ => False

def cellsOf : SV → Option (List SV)
  | .agg fs => some fs
  | .any => none
  | .raw (.agg _) => none
  | x => some [x]

/-- What lies in one cell. -/
def SV.scalar : SV → Bool
  | .any | .agg _ | .tup _ => false
  | .raw v => v.oneCell'
  | _ => true
def scalarL : List SV → Bool
  | [] => true
  | x :: xs => x.scalar && scalarL xs

def splice (cells : List SV) (o : Nat) (fs : List SV) : List SV := cells.take o ++ (fs ++ cells.drop (o + fs.length))

def bldK (e : Env) : List SV → List (Nat × Nat × Opd) → (SV → Prop) → Prop
  | z, [], K => K (.agg z)
  | z, (off, s, x) :: ps, K => match cellsOf (ev e x) with
    | some fs => fs.length = s ∧ off + s ≤ z.length ∧ bldK e (splice z off fs) ps K
    | none => False

def bslK (e : Env) (wd : Nat) : List (List SV) → List (Nat × Opd) → (SV → Prop) → Prop
  | xs, [], K => K (.slc wd xs)
  | xs, (i, x) :: ps, K => match cellsOf (ev e x) with
    | some fs => fs.length = wd ∧ i < xs.length ∧ SV.pure.pureL fs = true ∧ bslK e wd (xs.set i fs) ps K
    | none => False

/-- A slice of nothing may be appended to. -/
def bslEnd (len : Nat) (sv : SV) : SV :=
  match len with
  | 0 => .nils
  | _ => sv

def mmK (mx : Bool) (e : Env) : SV → List Opd → (SV → Prop) → Prop
  | a, [], K => K a
  | a, x :: xs, K => match a, ev e x with
    | .int k m, .int _ y => match mx with
      | true => mmK mx e (.int k (max m y)) xs K
      | false => mmK mx e (.int k (min m y)) xs K
    | _, _ => False

def fnsOf : SV → Option (FuncId × List SV)
  | .fn f caps => some (f, caps)
  | _ => none

/-- The contract of a function that turns nothing: from what its arguments stand for, what it hands back stands for. -/
def FS (P : Program) (f : FuncId) (args : List SV) (res : SV) : Prop :=
  (∀ vs w, (callFunc f vs).run P w = .ok (.enter f vs) w) ∧
  ∀ (w : World) (A : Nat → Prop) (vs : List Value), (∀ b, A b → b < w.heap.size) → vs.length = args.length → (∀ (i : Nat) (x : SV) (v : Value), args[i]? = some x → vs[i]? = some v → Rep w A [] x v) →
    Calls P f vs.toArray w fun e w' => ∃ v, e = .returned v ∧ Below w.heap.size w w' ∧ Rep w' A [] res v

/-- One's own blocks, lent for a call: what comes back leads to none of them. -/
def lendK (P : Program) (g : FuncId) (as : List SV) (H : List Blk) (K : SV → Prop) : Prop :=
  frzs (frzK 4 H) as fun as => ∃ res, FS P g as res ∧ SV.loose res = true ∧ K res

/-- '==' (or '!=') on two structs or arrays. -/
def EqOk (P : Program) (neg : Bool) (t : TypeId) (fs gs : List SV) (b : Bool) : Prop :=
  ∀ (w : World) (A : Nat → Prop) (β : List (Option Nat)) (x y : Value) (p q : Operand), Rep w A β (.agg fs) x → Rep w A β (.agg gs) y →
    (do eqGuard (if neg then .neq else .eql) t p q x y; binOp (if neg then .neq else .eql) t x y : Sem Value).run P w = .ok (.bool b) w

/-- An operation of some other kind. -/
def OthOk (P : Program) (o : Oper) (e : Env) (res : SV) : Prop :=
  ∀ (w : World) (A : Nat → Prop) (β : List (Option Nat)) (a : Act), (∀ t, Operand.tmp t ∈ o.op.operands → Rep w A β (look e t) (a.tmps.getD t undef)) →
    ∃ v, (execOp a.eval o).run P w = .ok (.value v) w ∧ Rep w A β res v

def lowK (e : Env) (lo : Option Opd) (K : Int → Prop) : Prop :=
  match lo with
  | none => K 0
  | some x => asI (ev e x) K
def highK (e : Env) (n : Nat) (hi : Option Opd) (K : Int → Prop) : Prop :=
  match hi with
  | none => K n
  | some x => asI (ev e x) K

def slK (e : Env) (wd : Nat) (x : SV) (lo hi : Option Opd) (mx : Option Opd) (K : SV → Prop) : Prop :=
  match mx with
  | some m => asI (ev e m) fun m => match lo, hi, x with
    | none, some h, .slc _ _ | none, some h, .osl _ _ _ _ | none, some h, .nils => asI (ev e h) fun h => h = 0 ∧ m = 0 ∧ K .nils
    | _, _, _ => False
  | none => match x with
    | .slc wd' xs => wd' = wd ∧ lowK e lo fun l => highK e xs.length hi fun h => 0 ≤ l ∧ l ≤ h ∧ h ≤ xs.length ∧ K (.slc wd ((xs.take h.toNat).drop l.toNat))
    | .osl k wd' i n => wd' = wd ∧ lowK e lo fun l => highK e n hi fun h => 0 ≤ l ∧ l ≤ h ∧ h ≤ n ∧ K (.osl k wd (i + l.toNat) (h.toNat - l.toNat))
    | .nils => lowK e lo fun l => highK e 0 hi fun h => l = 0 ∧ h = 0 ∧ K .nils
    | _ => False

/-- What is to be shown of an operation that turns nothing. -/
def pop (P : Program) (op : IOp) (e : Env) (H : List Blk) (K : SV → Prop) : Prop :=
  match op with
  | .mv x => K (ev e x)
  | .pick c a b => match ev e c with
    | .bool true => K (ev e a)
    | .bool false => K (ev e b)
    | _ => False
  | .ck x => match ev e x with
    | .ptr k wd i j => K (.ptr k wd i j)
    | .box cs j => K (.box cs j)
    | .fn f caps => K (.fn f caps)
    | _ => False
  | .bin o x y => binK o (ev e x) (ev e y) K
  | .beq neg x y => match ev e x, ev e y with
    | .bool a, .bool b => match neg with
      | true => K (.bool (a != b))
      | false => K (.bool (a == b))
    | _, _ => False
  | .seq neg x y => match ev e x, ev e y with
    | .str a, .str b => match neg with
      | true => K (.bool (decide (a ≠ b)))
      | false => K (.bool (decide (a = b)))
    | _, _ => False
  | .eqv neg t x y => match ev e x, ev e y with
    | .agg fs, .agg gs => ∃ b, EqOk P neg t fs gs b ∧ K (.bool b)
    | _, _ => False
  | .isn neg x => match ev e x with
    | .slc _ xs => (xs ≠ [] → K (.bool neg)) ∧ (xs = [] → K .anyb)
    | .osl _ _ _ n => (n ≠ 0 → K (.bool neg)) ∧ (n = 0 → K .anyb)
    | .nils => K .anyb
    | _ => False
  | .un o x => unK o (ev e x) K
  | .cv k x => asI (ev e x) fun z => arK k z K
  | .fn f caps => K (.fn f (caps.map (ev e)))
  | .bld z parts => bldK e z parts K
  | .bsl len wd z parts => SV.pure.pureL z = true ∧ bslK e wd (List.replicate len z) parts fun sv => K (bslEnd len sv)
  | .ld s ag x => ldK s ag (ev e x) H K
  | .fa off x => match ev e x with
    | .ptr k wd i j => K (.ptr k wd i (j + off))
    | .box cs j => K (.box cs (j + off))
    | _ => False
  | .fd off s ag x => match ev e x with
    | .agg fs => partK s ag fs off K
    | _ => False
  | .ia wd x i => asI (ev e i) fun i => match ev e x with
    | .slc wd' xs => wd' = wd ∧ 0 ≤ i ∧ i < xs.length ∧ ∀ x, xs[i.toNat]? = some x → K (.box x 0)
    | .osl k wd' b n => wd' = wd ∧ 0 ≤ i ∧ i < n ∧ K (.ptr k wd (b + i.toNat) 0)
    | _ => False
  | .iaA n wd x i => asI (ev e i) fun i => 0 ≤ i ∧ i < n ∧ match ev e x with
    | .ptr k wd' i0 j0 => K (.ptr k wd' i0 (j0 + i.toNat * wd))
    | .box cs j => K (.box cs (j + i.toNat * wd))
    | _ => False
  | .ix n wd ag x i => asI (ev e i) fun i => 0 ≤ i ∧ i < n ∧ match ev e x with
    | .agg fs => partK wd ag fs (i.toNat * wd) K
    | _ => False
  | .ex i x => match ev e x with
    | .tup fs => match fs[i]? with
      | some f => K f
      | none => False
    | _ => False
  | .ln x => match ev e x with
    | .slc _ xs => K (.int .i64 xs.length)
    | .osl _ _ _ n => K (.int .i64 n)
    | .nils => K (.int .i64 0)
    | _ => False
  | .lnA n _ => K (.int .i64 n)
  | .sl wd x lo hi mx => slK e wd (ev e x) lo hi mx K
  | .mm mx xs => match xs with
    | x :: xs => match ev e x with
      | .int k m => mmK mx e (.int k m) xs K
      | _ => False
    | [] => False
  | .call f args => match fnsOf (ev e f) with
    | some (g, caps) => (SV.pure.pureL (args.map (ev e) ++ caps) = true ∧ ∃ res, FS P g (args.map (ev e) ++ caps) res ∧ K res) ∨ lendK P g (args.map (ev e) ++ caps) H K
    | none => False
  | .oth o => ∃ res, OthOk P o e res ∧ K res
  | _ => False

end Go.Proofs.Ytefciekodhpefaa
