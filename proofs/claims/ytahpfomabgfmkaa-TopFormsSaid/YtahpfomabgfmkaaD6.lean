/- maps.Keys, slices.Sorted, slices.Sort: the library's own code, at this program. A contract from a function's code where some operations are told apart. A map of sums: what its operations do; what is known of it beside the walk. The operations on a map of sums are sound. maps.Keys: its iterator. slices.Sorted of the keys of a map of sums. -/
import Derived.Test.YtahpfomabgfmkaaD5
import Derived.Shelf.SlIterI.Nil
import Derived.Shelf.SortM.SortNone
import Derived.Shelf.SortM.Plain
import Derived.Maps.OwnSet
import Derived.Maps.Ext
import Derived.Carry
namespace Go.Proofs.Ytahpfomabgfmkaa
section
open Go.RowKit
attribute [local irreducible] FS FO IT HS

def renK : Go.Shelf.Ren := ⟨fun | 7 => 106 | 10 => 134 | n => n, fun | 23 => 105 | 26 => 3 | 3 => 107 | 28 => 113 | 0 => 0 | 27 => 112 | 33 => 139 | 4 => 4 | n => n, fun n => n⟩

theorem laysK : Go.Proofs.SlLaysZI.n7 Try.prog renK := {
  mixed := by kernel_rfl,
  f7 := ⟨"maps.Keys[map[int]fretwork/api.Wide,int,fretwork/api.Wide]", by decide, Try.func106.trans (congrArg some (by kernel_rfl))⟩,
  f10 := ⟨"maps.Keys[map[int]fretwork/api.Wide,int,fretwork/api.Wide]$1", by decide, Try.func134.trans (congrArg some (by kernel_rfl))⟩,
  t0 := Try.underlying0,
  a0 := Try.isAgg0,
  z0 := Try.sizeOf0,
  v0 := Try.zeroValue0,
  t4 := Try.underlying4,
  a4 := Try.isAgg4,
  z4 := Try.sizeOf4,
  v4 := Try.zeroValue4,
  t23 := Try.underlying105,
  a23 := Try.isAgg105,
  z23 := Try.sizeOf105,
  v23 := Try.zeroValue105,
  t26 := Try.underlying3,
  a26 := Try.isAgg3,
  z26 := Try.sizeOf3,
  v26 := Try.zeroValue3,
  t27 := Try.underlying112,
  a27 := Try.isAgg112,
  z27 := Try.sizeOf112,
  v27 := Try.zeroValue112,
  t28 := Try.underlying113,
  a28 := Try.isAgg113,
  z28 := Try.sizeOf113,
  v28 := Try.zeroValue113,
  t33 := Try.underlying139,
  a33 := Try.isAgg139,
  z33 := Try.sizeOf139,
  v33 := Try.zeroValue139 }

def renS : Go.Shelf.Ren := ⟨fun | 6 => 105 | 8 => 132 | 9 => 133 | 11 => 145 | 13 => 147 | 12 => 146 | 23 => 165 | 24 => 166 | 14 => 156 | 15 => 157 | 16 => 158 | 17 => 159 | 18 => 160 | 19 => 161 | 20 => 162 | 21 => 163 | 22 => 164 | 25 => 169 | 26 => 170 | 27 => 171 | 28 => 172 | 29 => 173 | 30 => 151 | 31 => 174 | n => n, fun | 26 => 3 | 28 => 113 | 24 => 71 | 0 => 0 | 3 => 3 | 37 => 123 | 48 => 161 | 50 => 93 | 4 => 4 | 40 => 155 | 39 => 154 | 45 => 94 | 5 => 5 | 9 => 9 | 51 => 164 | 55 => 168 | 57 => 170 | 58 => 171 | 33 => 139 | n => n, fun n => n⟩

theorem laysS : Go.Proofs.SlLaysZI.n6 Try.prog renS := {
  mixed := by kernel_rfl,
  f6 := ⟨"slices.Sorted[int]", by decide, Try.func105.trans (congrArg some (by kernel_rfl))⟩,
  f8 := ⟨"slices.Collect[int]", by decide, Try.func132.trans (congrArg some (by kernel_rfl))⟩,
  f11 := ⟨"slices.AppendSeq[[]int,int]", by decide, Try.func145.trans (congrArg some (by kernel_rfl))⟩,
  t0 := Try.underlying0,
  a0 := Try.isAgg0,
  z0 := Try.sizeOf0,
  v0 := Try.zeroValue0,
  t24 := Try.underlying71,
  a24 := Try.isAgg71,
  z24 := Try.sizeOf71,
  v24 := Try.zeroValue71,
  t26 := Try.underlying3,
  a26 := Try.isAgg3,
  z26 := Try.sizeOf3,
  v26 := Try.zeroValue3,
  t28 := Try.underlying113,
  a28 := Try.isAgg113,
  z28 := Try.sizeOf113,
  v28 := Try.zeroValue113,
  i26 := by kernel_rfl }

def renM : Go.Shelf.Ren := ⟨fun | 5 => 133 | 8 => 147 | 7 => 146 | 19 => 165 | 20 => 166 | 10 => 156 | 11 => 157 | 12 => 158 | 13 => 159 | 14 => 160 | 15 => 161 | 16 => 162 | 17 => 163 | 18 => 164 | 30 => 169 | 31 => 170 | 32 => 171 | 33 => 172 | 34 => 173 | 35 => 151 | 40 => 174 | n => n, fun | 23 => 71 | 25 => 3 | 3 => 3 | 32 => 123 | 22 => 71 | 0 => 0 | 44 => 161 | 46 => 93 | 4 => 4 | 36 => 155 | 35 => 154 | 41 => 94 | 5 => 5 | 9 => 9 | 53 => 164 | 57 => 168 | 63 => 170 | 64 => 171 | n => n, fun n => n⟩

theorem laysM : Go.Proofs.SlLaysM.n5 Try.prog renM := {
  mixed := by kernel_rfl,
  f5 := ⟨"slices.Sort[[]int,int]", by decide, Try.func133.trans (congrArg some (by kernel_rfl))⟩,
  f7 := ⟨"slices.pdqsortOrdered[int]", by decide, Try.func146.trans (congrArg some (by kernel_rfl))⟩,
  f8 := Try.func147.trans (congrArg some (by kernel_rfl)),
  f10 := ⟨"slices.insertionSortOrdered[int]", by decide, Try.func156.trans (congrArg some (by kernel_rfl))⟩,
  f11 := ⟨"slices.heapSortOrdered[int]", by decide, Try.func157.trans (congrArg some (by kernel_rfl))⟩,
  f12 := ⟨"slices.breakPatternsOrdered[int]", by decide, Try.func158.trans (congrArg some (by kernel_rfl))⟩,
  f13 := ⟨"slices.choosePivotOrdered[int]", by decide, Try.func159.trans (congrArg some (by kernel_rfl))⟩,
  f14 := ⟨"slices.reverseRangeOrdered[int]", by decide, Try.func160.trans (congrArg some (by kernel_rfl))⟩,
  f15 := ⟨"slices.partialInsertionSortOrdered[int]", by decide, Try.func161.trans (congrArg some (by kernel_rfl))⟩,
  f16 := ⟨"cmp.Less[int]", by decide, Try.func162.trans (congrArg some (by kernel_rfl))⟩,
  f17 := ⟨"slices.partitionEqualOrdered[int]", by decide, Try.func163.trans (congrArg some (by kernel_rfl))⟩,
  f18 := ⟨"slices.partitionOrdered[int]", by decide, Try.func164.trans (congrArg some (by kernel_rfl))⟩,
  f19 := Try.func165.trans (congrArg some (by kernel_rfl)),
  f20 := Try.func166.trans (congrArg some (by kernel_rfl)),
  f30 := ⟨"slices.siftDownOrdered[int]", by decide, Try.func169.trans (congrArg some (by kernel_rfl))⟩,
  f31 := Try.func170.trans (congrArg some (by kernel_rfl)),
  f32 := Try.func171.trans (congrArg some (by kernel_rfl)),
  f33 := ⟨"slices.medianAdjacentOrdered[int]", by decide, Try.func172.trans (congrArg some (by kernel_rfl))⟩,
  f34 := ⟨"slices.medianOrdered[int]", by decide, Try.func173.trans (congrArg some (by kernel_rfl))⟩,
  f35 := ⟨"cmp.isNaN[int]", by decide, Try.func151.trans (congrArg some (by kernel_rfl))⟩,
  f40 := ⟨"slices.order2Ordered[int]", by decide, Try.func174.trans (congrArg some (by kernel_rfl))⟩,
  t0 := Try.underlying0,
  a0 := Try.isAgg0,
  z0 := Try.sizeOf0,
  v0 := Try.zeroValue0,
  t3 := Try.underlying3,
  a3 := Try.isAgg3,
  z3 := Try.sizeOf3,
  v3 := Try.zeroValue3,
  t4 := Try.underlying4,
  a4 := Try.isAgg4,
  z4 := Try.sizeOf4,
  v4 := Try.zeroValue4,
  t5 := Try.underlying5,
  a5 := Try.isAgg5,
  z5 := Try.sizeOf5,
  v5 := Try.zeroValue5,
  t9 := Try.underlying9,
  a9 := Try.isAgg9,
  z9 := Try.sizeOf9,
  v9 := Try.zeroValue9,
  t22 := Try.underlying71,
  a22 := Try.isAgg71,
  z22 := Try.sizeOf71,
  v22 := Try.zeroValue71,
  t23 := Try.underlying71,
  a23 := Try.isAgg71,
  z23 := Try.sizeOf71,
  v23 := Try.zeroValue71,
  t25 := Try.underlying3,
  a25 := Try.isAgg3,
  z25 := Try.sizeOf3,
  v25 := Try.zeroValue3,
  t32 := Try.underlying123,
  a32 := Try.isAgg123,
  z32 := Try.sizeOf123,
  v32 := Try.zeroValue123,
  t35 := Try.underlying154,
  a35 := Try.isAgg154,
  z35 := Try.sizeOf154,
  v35 := Try.zeroValue154,
  t36 := Try.underlying155,
  a36 := Try.isAgg155,
  z36 := Try.sizeOf155,
  v36 := Try.zeroValue155,
  t41 := Try.underlying94,
  a41 := Try.isAgg94,
  z41 := Try.sizeOf94,
  v41 := Try.zeroValue94,
  t44 := Try.underlying161,
  a44 := Try.isAgg161,
  z44 := Try.sizeOf161,
  v44 := Try.zeroValue161,
  t46 := Try.underlying93,
  a46 := Try.isAgg93,
  z46 := Try.sizeOf93,
  v46 := Try.zeroValue93,
  t53 := Try.underlying164,
  a53 := Try.isAgg164,
  z53 := Try.sizeOf164,
  v53 := Try.zeroValue164,
  t57 := Try.underlying168,
  a57 := Try.isAgg168,
  z57 := Try.sizeOf168,
  v57 := Try.zeroValue168,
  t63 := Try.underlying170,
  a63 := Try.isAgg170,
  z63 := Try.sizeOf170,
  v63 := Try.zeroValue170,
  t64 := Try.underlying171,
  a64 := Try.isAgg171,
  z64 := Try.sizeOf171,
  v64 := Try.zeroValue171 }
end
section
open Go.Proofs.Ytahpfomabgfmkaa Go.RowKit

theorem fs_of_cvcY {P : Program} (hm : P.follows .mixedOrders = true) {f : FuncId} {N : Nat} {ir : IR} {rs : List RV} (hc : Code1 P f N ir rs) {args : List SV} {res : SV} (hN : args.length ≤ N) {y : Yv} (Y : Nat → (Nat → Prop) → Ysem) (hB : ∀ n0 A b, ¬ (Y n0 A).B0 b)
    (hY : ∀ (n0 : Nat) (A : Nat → Prop), (∀ b, A b → b < n0) → Yok P A y (Y n0 A)) (h0 : ∀ (A : Nat → Prop) (w : World), (Y w.heap.size A).X none w A [])
    (h : cvc P 0 [] y ir (argE 0 args) [] none fun ex e' H' _ => finK ex (resK rs e' H' fun sv => frzK 4 H' sv fun z => leV 0 z res)) : FS P f args res := by
  refine ⟨hc.enter, fun w A vs hfin hlen hr => (calls_of_cvc hm hc hN (R := fun sv H' _ => frzK 4 H' sv fun z => leV 0 z res) (hY w.heap.size A hfin) (fun b h => by simp at h) h hfin (WRel.nil w A) ⟨hlen, hr⟩ (h0 A w)).mono ?_⟩
  rintro e w' ⟨v, A', β', sv, H', g', rfl, hR, hcur, hrep, _⟩
  obtain ⟨z, hz, hfz⟩ := frzK_sound 4 sv _ hR
  refine ⟨v, rfl, ⟨hcur.frm.os, hcur.frm.tape, hcur.frm.output, hcur.frm.size, fun b hb => hcur.frm.keep b hb (hB _ _ b)⟩, leV_rep hz (hfz w' A' A β' v hcur.rel.wb (fun b hb => (hcur.agree b (hfin b hb)).2 hb) (fun k b _ hk _ _ ha => ?_) hrep)⟩
  have := hcur.fresh k b hk (hfin b ha)
  simp at this
end
section
open Go.RowKit Go.Maps Go.Sort
attribute [local irreducible] FS FO IT HS

/-! ### How an element reads -/
def wdat (v : Int) : DataW Unit := .agg [.lit (.int .i64 (hi v)), .lit (.int .u64 (lo v))]
def rdW (v : Value) : Option (DataW Unit × List MemPlace) :=
  match v with
  | .agg cs => match cs.toList with
    | [.int .i64 a, .int .u64 b] => some (.agg [.lit (.int .i64 a), .lit (.int .u64 b)], [])
    | _ => none
  | _ => none
theorem rdW_mk (x : Int) : rdW (.agg #[.int .i64 (hi x), .int .u64 (lo x)]) = some (wdat x, []) := rfl
theorem rdW_inv {v : Value} {x : Int} {ps : List MemPlace} (h : rdW v = some (wdat x, ps)) : v = .agg #[.int .i64 (hi x), .int .u64 (lo x)] := by
  unfold rdW at h
  split at h
  · rename_i cs
    split at h
    · rename_i a b hcs
      simp [wdat] at h
      obtain ⟨⟨rfl, rfl⟩, _⟩ := h
      have : cs = #[.int .i64 (hi x), .int .u64 (lo x)] := by rw [← Array.toList_inj]; exact hcs
      rw [this]
    · cases h
  · cases h

/-! ### What the map holds -/
structure Agr (A : List (Int × Int)) (D : DataW Unit) : Prop where
  map : IsMap D
  has : ∀ k : Int, Maps.has D (.int .i64 k) = (gt A k).isSome
  at_ : ∀ (k : Int) (zd : DataW Unit), D.atKey (.int .i64 k) zd = match gt A k with
    | some v => wdat v
    | none => zd
theorem Agr.nil : Agr [] (.map []) := ⟨isMap_empty, fun _ => rfl, fun _ _ => rfl⟩
theorem Agr.step {r : Int} {A : List (Int × Int)} {D : DataW Unit} (h : Agr A D) (hu : Up A) (x : Int × Int) : Agr (smI r A x) (D.put (.int .i64 x.1) (wdat (smV r A x))) := by
  refine ⟨h.map.put _ _, fun k => ?_, fun k zd => ?_⟩
  · rw [gt_smI hu]
    by_cases hk : k = x.1
    · subst hk; rw [if_pos rfl, has_put_same h.map (show WideAt.IsKeyLit (.int .i64 x.1) by simp [WideAt.IsKeyLit])]; rfl
    · rw [if_neg hk, has_put_other (fun e => hk (by cases e; rfl)), h.has]
  · rw [gt_smI hu]
    by_cases hk : k = x.1
    · subst hk; rw [if_pos rfl, atKey_put_same h.map (show WideAt.IsKeyLit (.int .i64 x.1) by simp [WideAt.IsKeyLit])]
    · rw [if_neg hk, atKey_put_other (fun e => hk (by cases e; rfl)), h.at_]

/-- What is known of the map: the ghost is its block times the items' number and more, and how many items are in. -/
def mapX (kt : TypeId) (r : Int) (l : List (Int × Int)) (n0 : Nat) (A0 : Nat → Prop) (g : Option Nat) (w : World) (A : Nat → Prop) (β : List (Option Nat)) : Prop :=
  match g with
  | none => n0 ≤ w.heap.size
  | some n => ¬ A0 (n / (l.length + 2)) ∧ A (n / (l.length + 2)) ∧ some (n / (l.length + 2)) ∉ β ∧ ∃ D, Agr (sm r l (n % (l.length + 2))) D ∧ w.ownsMap Try.prog kt rdW (n / (l.length + 2)) (n % (l.length + 2)) D
theorem ghost_div {K mb i : Nat} (h : i < K) : (mb * K + i) / K = mb ∧ (mb * K + i) % K = i := by
  constructor
  · rw [Nat.mul_comm, Nat.mul_add_div (by omega), Nat.div_eq_of_lt h, Nat.add_zero]
  · rw [Nat.mul_comm, Nat.mul_add_mod, Nat.mod_eq_of_lt h]
theorem ownsMap_same {kt : TypeId} {w w' : World} {b n : Nat} {D : DataW Unit} (h : w.ownsMap Try.prog kt rdW b n D) (hb : w'.heap[b]? = w.heap[b]?) : w'.ownsMap Try.prog kt rdW b n D := by
  obtain ⟨es, clock, h1, h2⟩ := h
  exact ⟨es, clock, hb.trans h1, h2⟩

/-- What the operations on the map, and the sorted keys, yield. -/
def ofOth (mt : TypeId) (r : Int) (l : List (Int × Int)) (fS fK : FuncId) (op : IOp) (e : Env) (H : List Blk) : Option (Option Nat → (SV → Option Nat → Prop) → Prop) :=
  match op with
  | .oth o => match o.op with
    | .makeMap _ none => some fun g R => g = none ∧ ∀ mb, R (.raw (.map (some mb))) (some (mb * (l.length + 2)))
    | .lookup t m x ok => if t ≠ mt then none else some fun g R => ∃ mb i key, ev e (cOpd m) = .raw (.map (some mb)) ∧ ev e (cOpd x) = .int .i64 key ∧ I64 key ∧ i ≤ l.length ∧ g = some (mb * (l.length + 2) + i) ∧ R (match ok with
      | true => .tup [WN ((gt (sm r l i) key).getD 0), .bool (gt (sm r l i) key).isSome]
      | false => WN ((gt (sm r l i) key).getD 0)) g
    | .mapUpdate t m x v => if t ≠ mt then none else some fun g R => ∃ mb i y, ev e (cOpd m) = .raw (.map (some mb)) ∧ l[i]? = some y ∧ I64 y.1 ∧ ev e (cOpd x) = .int .i64 y.1 ∧ ev e (cOpd v) = WN (smV r (sm r l i) y) ∧ g = some (mb * (l.length + 2) + i) ∧ R .any (some (mb * (l.length + 2) + (i + 1)))
    | _ => none
  | .call f xs => match fnsOf (ev e f) with
    | some (g0, []) => if g0 = fS then some fun g R => ∃ mb i k, xs.map (ev e) = [.fn fK [.ptr k 0 0 0]] ∧ H[k]? = some (.vars [.raw (.map (some mb))]) ∧ i ≤ l.length ∧ g = some (mb * (l.length + 2) + i) ∧ R (Z ((sm r l i).map (·.1))) g else none
    | _ => none
  | _ => none
end
section
open Go.Proofs.Ytahpfomabgfmkaa Go.RowKit Go.Maps Go.Sort Go.MapKept Go.ChangeMaps

theorem cop_oth {P : Program} {o o' : Oper} (h : cop P o = some (.oth o')) : o' = o := by
  cases hop : o.op with
  | _ =>
    simp only [cop, hop] at h
    repeat' split at h
    all_goals first | (cases h; rfl) | (cases h; done) | (obtain ⟨_, _, h⟩ := Option.map_eq_some_iff.1 h; cases h; done) | (obtain ⟨_, _, h⟩ := Option.bind_eq_some_iff.1 h; split at h <;> cases h; done) | (obtain ⟨_, _, h⟩ := Option.bind_eq_some_iff.1 h; obtain ⟨_, _, h⟩ := Option.map_eq_some_iff.1 h; cases h)

/-- The map's type, its keys' and its elements'. -/
theorem OthStep.refl {A0 : Nat → Prop} {β : List (Option Nat)} {A : Nat → Prop} {w : World} (h : ∀ b, A b → b < w.heap.size) : OthStep A0 β A w A w := ⟨Stp.refl _ _, fun _ _ _ => rfl, fun _ _ => Iff.rfl, h⟩

section
variable {kt et mt : TypeId} {r : Int} {l : List (Int × Int)} {n0 : Nat} {A0 : Nat → Prop} {o : Oper} {w : World} {A : Nat → Prop} {β : List (Option Nat)} {a : Act} {e : Env} {R : SV → Option Nat → Prop}
  (hkt : Try.prog.underlying kt = some (.int .i64)) (hmt : Try.prog.underlying mt = some (.map kt et)) (hz : ∀ w, (zeroValue et).run Try.prog w = .ok (.agg #[.int .i64 0, .int .u64 0]) w)
  (hA0 : ∀ b, A0 b → b < n0) (hfin : ∀ b, A b → b < w.heap.size) (hnm : ∀ b, some b ∈ β → A b) (henv : EnvRel w A β e a.tmps)

include hA0 hfin hnm in
theorem oth_make {t : TypeId} (hop : o.op = .makeMap t none) (hX : mapX kt r l n0 A0 none w A β) (hR : ∀ mb, R (.raw (.map (some mb))) (some (mb * (l.length + 2)))) :
    rel Try.prog o a w fun v w' => ∃ (sv : SV) (g' : Option Nat) (A' : Nat → Prop), R sv g' ∧ mapX kt r l n0 A0 g' w' A' β ∧ OthStep A0 β A w A' w' ∧ Rep w' A' β sv v := by
  have hX : n0 ≤ w.heap.size := hX
  have hb : Below w.heap.size w (w.alloc (.map #[] 0)) := (Below.refl _ w).alloc (Nat.le_refl _) _
  have hsz : (w.alloc (.map #[] 0)).heap.size = w.heap.size + 1 := by simp
  refine rel_value (v := .map (some w.heap.size)) (w' := w.alloc (.map #[] 0)) (by simp [execOp, hop, run_makeMap, Result.andThen]) ⟨_, _, fun b => A b ∨ b = w.heap.size, hR w.heap.size, ?_, ⟨Stp.below hb, fun b hlt _ => hb.block b hlt, fun b hlt => ⟨fun h => h.resolve_right (by omega), .inl⟩, fun b h => ?_⟩, .raw _ _⟩
  · have hg := ghost_div (K := l.length + 2) (mb := w.heap.size) (i := 0) (by omega)
    rw [Nat.add_zero] at hg
    show ¬ A0 _ ∧ _ ∧ _ ∧ _
    rw [hg.1, hg.2]
    refine ⟨fun h => by have := hA0 _ h; omega, .inr rfl, fun h => by have := hfin _ (hnm _ h); omega, .map [], ?_, World.ownsMap_made _ _ _ _⟩
    show Agr (sm r l 0) _
    exact Agr.nil
  · rw [hsz]
    rcases h with h | h
    · have := hfin b h; omega
    · omega

include hkt hmt hz hfin henv in
theorem oth_look {m x : Operand} {ok : Bool} (hop : o.op = .lookup mt m x ok) {mb i : Nat} {key : Int} (hm : ev e (cOpd m) = .raw (.map (some mb))) (hx : ev e (cOpd x) = .int .i64 key) (hk : I64 key) (hile : i ≤ l.length) (hX : mapX kt r l n0 A0 (some (mb * (l.length + 2) + i)) w A β)
    (hR : R (match ok with
      | true => .tup [WN ((gt (sm r l i) key).getD 0), .bool (gt (sm r l i) key).isSome]
      | false => WN ((gt (sm r l i) key).getD 0)) (some (mb * (l.length + 2) + i))) :
    rel Try.prog o a w fun v w' => ∃ (sv : SV) (g' : Option Nat) (A' : Nat → Prop), R sv g' ∧ mapX kt r l n0 A0 g' w' A' β ∧ OthStep A0 β A w A' w' ∧ Rep w' A' β sv v := by
  have hg := ghost_div (K := l.length + 2) (mb := mb) (i := i) (by omega)
  have hX' := hX
  obtain ⟨_, _, _, D, hag, hown⟩ := hX
  rw [hg.2] at hag
  rw [hg.1, hg.2] at hown
  have vm : a.eval m = .map (some mb) := by
    have := ev_rep (w := w) (A := A) (β := β) (e := e) (a := a) m fun t _ => henv t
    rw [hm] at this
    generalize a.eval m = v at this
    cases this; rfl
  have vx : a.eval x = .int .i64 key := by
    have := ev_rep (w := w) (A := A) (β := β) (e := e) (a := a) x fun t _ => henv t
    rw [hx] at this
    exact rep_int this
  have hwf : (Lit.int .i64 key).wf = true := by
    unfold I64 at hk
    simp [Lit.wf, IntKind.min, IntKind.max, IntKind.signed, IntKind.bits]
    omega
  have hkey := keyOf_int_mk (P := Try.prog) hkt hwf
  have hzd : rdW (.agg #[.int .i64 0, .int .u64 0]) = some (wdat 0, []) := by
    have := rdW_mk 0
    rwa [show hi 0 = 0 by kernel_rfl, show lo 0 = 0 by kernel_rfl] at this
  have val : ∀ {v : Value} {ps : List MemPlace}, rdW v = some (D.atKey (.int .i64 key) (wdat 0), ps) → v = .agg #[.int .i64 (hi ((gt (sm r l i) key).getD 0)), .int .u64 (lo ((gt (sm r l i) key).getD 0))] := fun hv => by
    rw [hag.at_] at hv
    cases h : gt (sm r l i) key with
    | none => rw [h] at hv; exact rdW_inv hv
    | some s => rw [h] at hv; exact rdW_inv hv
  have rw_ : ∀ s : Int, Rep w A β (WN s) (.agg #[.int .i64 (hi s), .int .u64 (lo s)]) := fun s => .agg _ _ _ rfl fun j f v h1 h2 => by
    match j, h1, h2 with
    | 0, h1, h2 => cases h1; cases h2; exact .int _ _ _
    | 1, h1, h2 => cases h1; cases h2; exact .int _ _ _
  cases ok with
  | true =>
    obtain ⟨v, ps, hrun, hv⟩ := hown.look_ok (int_keyed hkt) hmt (hz w) hzd hkey
    obtain rfl := val hv
    rw [hag.has] at hrun
    refine rel_value (v := .tuple #[.agg #[.int .i64 (hi ((gt (sm r l i) key).getD 0)), .int .u64 (lo ((gt (sm r l i) key).getD 0))], .bool (gt (sm r l i) key).isSome]) (w' := w) (by simp [execOp, hop, vm, vx, hrun, Result.andThen]) ⟨_, _, A, hR, hX', OthStep.refl hfin, ?_⟩
    refine .tup _ _ _ rfl fun j f v h1 h2 => ?_
    match j, h1, h2 with
    | 0, h1, h2 => cases h1; cases h2; exact rw_ _
    | 1, h1, h2 => cases h1; cases h2; exact .bool _ _
  | false =>
    obtain ⟨v, ps, hrun, hv⟩ := hown.lookup (int_keyed hkt) hmt (hz w) hzd hkey
    obtain rfl := val hv
    exact rel_value (v := .agg #[.int .i64 (hi ((gt (sm r l i) key).getD 0)), .int .u64 (lo ((gt (sm r l i) key).getD 0))]) (w' := w) (by simp [execOp, hop, vm, vx, hrun, Result.andThen]) ⟨_, _, A, hR, hX', OthStep.refl hfin, rw_ _⟩

include hkt hmt hfin henv in
theorem oth_store {m x v : Operand} (hop : o.op = .mapUpdate mt m x v) {mb i : Nat} {y : Int × Int} (hll : l.length ≤ 1000000) (hm : ev e (cOpd m) = .raw (.map (some mb))) (hy : l[i]? = some y) (hk : I64 y.1) (hx : ev e (cOpd x) = .int .i64 y.1) (hv : ev e (cOpd v) = WN (smV r (sm r l i) y)) (hX : mapX kt r l n0 A0 (some (mb * (l.length + 2) + i)) w A β)
    (hR : R .any (some (mb * (l.length + 2) + (i + 1)))) :
    rel Try.prog o a w fun v w' => ∃ (sv : SV) (g' : Option Nat) (A' : Nat → Prop), R sv g' ∧ mapX kt r l n0 A0 g' w' A' β ∧ OthStep A0 β A w A' w' ∧ Rep w' A' β sv v := by
  have hil := (List.getElem?_eq_some_iff.1 hy).1
  have hg := ghost_div (K := l.length + 2) (mb := mb) (i := i) (by omega)
  have hg' := ghost_div (K := l.length + 2) (mb := mb) (i := i + 1) (by omega)
  obtain ⟨h0, hA, hnb, D, hag, hown⟩ := hX
  rw [hg.2] at hag
  rw [hg.1, hg.2] at hown
  rw [hg.1] at h0 hA hnb
  have vm : a.eval m = .map (some mb) := by
    have := ev_rep (w := w) (A := A) (β := β) (e := e) (a := a) m fun t _ => henv t
    rw [hm] at this
    generalize a.eval m = v at this
    cases this; rfl
  have vx : a.eval x = .int .i64 y.1 := by
    have := ev_rep (w := w) (A := A) (β := β) (e := e) (a := a) x fun t _ => henv t
    rw [hx] at this
    exact rep_int this
  have vv : a.eval v = .agg #[.int .i64 (hi (smV r (sm r l i) y)), .int .u64 (lo (smV r (sm r l i) y))] := by
    have := ev_rep (w := w) (A := A) (β := β) (e := e) (a := a) v fun t _ => henv t
    rw [hv] at this
    generalize a.eval v = u at this
    cases this with
    | agg _ _ vs hl hh =>
      match vs, hl with
      | [u0, u1], _ =>
        rw [rep_int (hh 0 _ u0 rfl rfl), rep_int (hh 1 _ u1 rfl rfl)]
  have hwf : (Lit.int .i64 y.1).wf = true := by
    unfold I64 at hk
    simp [Lit.wf, IntKind.min, IntKind.max, IntKind.signed, IntKind.bits]
    omega
  have hkey := keyOf_int_mk (P := Try.prog) hkt hwf
  obtain ⟨w', hrun, hown', hturn⟩ := hown.store (int_keyed hkt) hmt (by simp [maxLen]; omega) hkey (rdW_mk (smV r (sm r l i) y))
  obtain ⟨es, clock, es', clock', hb, rfl⟩ := hturn
  have hoth : ∀ b, b ≠ mb → (setBlock w mb (.map es' clock')).heap[b]? = w.heap[b]? := fun b hne => heap_setBlock_other hb _ hne
  have hsz : (setBlock w mb (.map es' clock')).heap.size = w.heap.size := by simp [setBlock]
  have hstp : Stp A w (setBlock w mb (.map es' clock')) := ⟨rfl, rfl, rfl, by rw [hsz]; exact Nat.le_refl _, fun b _ hn => hoth b fun e => hn (e ▸ hA), fun b cs T fr hc => ⟨cs, fr, by rw [hoth b fun e => by rw [e, hb] at hc; cases hc]; exact hc, rfl⟩⟩
  unfold rel
  rw [show (execOp a.eval o).run Try.prog w = .ok .skip (setBlock w mb (.map es' clock')) by simp [execOp, hop, vm, vx, vv, hrun, Result.andThen]]
  refine ⟨.any, _, A, hR, ?_, ⟨hstp, fun b _ hb' => hoth b fun e => ?_, fun _ _ => Iff.rfl, fun b h => by rw [hsz]; exact hfin b h⟩, .any _ _⟩
  · show ¬ A0 _ ∧ _ ∧ _ ∧ _
    rw [hg'.1, hg'.2]
    exact ⟨h0, hA, hnb, _, by rw [sm_more hy]; exact hag.step (up_sm r l i) y, hown'⟩
  · subst e
    exact hb'.elim h0 hnb
end
end
section
open Go.RowKit
attribute [local irreducible] FS FO IT HS

def ir_maps_Keys_map_int_api_Wide_int_api_Wide : IR :=
(.seq (.reg (⟨(some 1), .bx (.t 0), none⟩ ::⟨(some 2), .mv (.c (.raw .nilFunc)), none⟩ :: [])) (.seq (.reg (⟨(some 3), .fn 134 [(.t 1)], none⟩ ::⟨(some 2), .mv (.t 3), none⟩ :: [])) .ret))
theorem cd_maps_Keys_map_int_api_Wide_int_api_Wide : Code1 Try.prog 106 4 ir_maps_Keys_map_int_api_Wide_int_api_Wide [.t 2] := ⟨Try.call106, _, _, Try.func106, rfl, by kernel_rfl, by kernel_rfl, by kernel_rfl, by kernel_rfl⟩

theorem fo_keys (mb : Nat) : FO Try.prog 106 [.raw (.map (some mb))] (.fn 134 [.ptr 0 0 0 0]) [.vars [.raw (.map (some mb))]] := by
  refine fo_of_cvc mixed cd_maps_Keys_map_int_api_Wide_int_api_Wide (by simp) ?_
  repeat' (conv => whnf); first
    | (refine Br.tt ?_)
    | (refine Br.ff ?_)
    | (refine Br.dec (fun h => ?_) (fun h => ?_)) <;> try (exfalso; omega)
    | (refine Br.neg ?_)
    | (refine Br.mk (fun h => ?_) (fun h => ?_))
    | (refine And.intro rfl ?_)
    | (refine And.intro (by omega) ?_)
    | (refine ⟨_, Or.inl ⟨⟨by omega, by omega⟩, rfl⟩, ?_⟩)
    | (refine And.intro (by simp only [lens_all, its_len]; first | done | omega) ?_)
    | (refine And.intro (Nat.le_refl _) ?_)
    | fail
  exact Or.inr (Or.inr (FoS.one 0 (MatL.fn (.cons (.ptr 0 0 0 0 0 rfl) .nil)) rfl rfl))
end
section
open Go.Proofs.Ytahpfomabgfmkaa Go.RowKit Go.Maps Go.Sort Go.Shelf

theorem sortsI (m : Nat) : AnyZI.SortsIn Try.prog renS Fence.wide m :=
  ⟨fun blk off cap ss W hH hblk hsz => callsIn_wide.2 (AnyM.slices_Sort_int laysM blk off cap ss W hH hblk hsz),
   fun p cap W => callsIn_wide.2 (AnyM.slices_Sort_int_none laysM p cap W)⟩

theorem sorted_calls {w : World} {Bm b n : Nat} {D : DataW Unit} {R : Value → Option (DataW Unit × List MemPlace)} (hBm : Bm < w.heap.size) (hm : w.cell? ⟨Bm, 0, none⟩ = some (.map (some b))) (hown : w.ownsMap Try.prog 3 R b n D) (hsz : Maps.size D ≤ 1000000) :
    Calls Try.prog 105 #[.func (.func 134) #[] #[.pointer (some ⟨Bm, 0, none⟩)]] w fun e w' => ∃ (v : Value) (ss : List Int), e = .returned v ∧ ss.Perm (intKeys D) ∧
      w'.ownsRow w.heap.size 3 1 v ss.length ((ss.mergeSort (fun x y => decide (x ≤ y))).map encZ) ∧ (v = .slice none 0 0 ↔ ss = []) ∧ Below w.heap.size w w' := by
  refine (callsIn_wide (n := 5)).1 ?_
  have hseq : SeqGives Fence.wide 2 Try.prog 134 #[.pointer (some ⟨Bm, 0, none⟩)] encZ (fun ss => ss.Perm (intKeys D)) (Maps.size D) w :=
    AnyZI.keys_gives (ρ := renK) { laysK with } Fence.wide _ trivial rfl (by omega) Bm b n D w hBm hm hown
  exact AnyZI.sorted_in laysS Fence.wide 5 trivial trivial trivial trivial rfl (by omega) (sortsI _) (enters_of Try.func133 (by kernel_rfl) rfl) 134 #[.pointer (some ⟨Bm, 0, none⟩)] trivial (enters_of Try.func134 (by kernel_rfl) rfl) _ _ (by simp [maxLen]; omega) (by omega) _ hseq

theorem gt_isSome {A : List (Int × Int)} (hu : Up A) (x : Int) : x ∈ A.map (·.1) ↔ (gt A x).isSome = true := by
  rw [List.mem_map]
  constructor
  · rintro ⟨y, hy, rfl⟩
    rw [gt_some hu hy]; rfl
  · intro h
    obtain ⟨v, hv⟩ := Option.isSome_iff_exists.1 h
    exact ⟨_, gt_mem hv, rfl⟩
theorem perm_keys {w : World} {b n : Nat} {D : DataW Unit} {A : List (Int × Int)} (hu : Up A) (hag : Agr A D) (hown : w.ownsMap Try.prog 3 rdW b n D) : (A.map (·.1)).Perm (intKeys D) :=
  CollectedI.perm (left := fun _ => false) ⟨List.pairwise_map.2 (hu.imp fun h e => by omega), fun x => by rw [gt_isSome hu, hag.has]; simp⟩ hown (int_keyed Try.underlying3) Try.underlying3 (fun _ => rfl)
theorem sort_keys {A : List (Int × Int)} (hu : Up A) {ss : List Int} (h : ss.Perm (A.map (·.1))) : ss.mergeSort (fun x y => decide (x ≤ y)) = A.map (·.1) := by
  have := mergeSort_of_perm_i h
  rw [show ss.mergeSort (fun x y => decide (x ≤ y)) = ss.mergeSort leI from rfl, this]
  refine List.mergeSort_of_pairwise (List.pairwise_map.2 (hu.imp fun h => ?_))
  simp only [leI, decide_eq_true_eq]; omega
theorem putI_len (p v : Int) : ∀ (l : List (Int × Int)), (putI p v l).length ≤ l.length + 1
  | [] => Nat.le_refl _
  | x :: xs => by
    have ih := putI_len p v xs
    have hf := List.length_filter_le (fun y => decide (y.1 ≠ p)) (x :: xs)
    rw [putI]
    split
    · simp only [List.length_cons] at hf ⊢; omega
    · simp only [List.length_cons]; omega
theorem sm_len (r : Int) (l : List (Int × Int)) : ∀ (i : Nat), (sm r l i).length ≤ i
  | 0 => Nat.le_of_eq rfl
  | i + 1 => by
    have ih := sm_len r l i
    cases h : l[i]? with
    | none =>
      have hl : l.length ≤ i := List.getElem?_eq_none_iff.1 h
      have : sm r l (i + 1) = sm r l i := by unfold sm; rw [List.take_of_length_le (by omega), List.take_of_length_le hl]
      rw [this]; omega
    | some x =>
      rw [sm_more h]
      have := putI_len x.1 (smV r (sm r l i) x) (sm r l i)
      unfold smI; omega

section
variable {r : Int} {l : List (Int × Int)} {n0 : Nat} {A0 : Nat → Prop} {o : Oper} {w : World} {A : Nat → Prop} {β : List (Option Nat)} {H : List Blk} {a : Act} {e : Env} {R : SV → Option Nat → Prop}

theorem oth_sorted {f : Opd} {xs : List Opd} (hfin : ∀ b, A b → b < w.heap.size) (hW : WRel w A β H) (henv : EnvRel w A β e a.tmps) (hcop : cop Try.prog o = some (.call f xs)) (hf : fnsOf (ev e f) = some (105, [])) {mb i k : Nat} (hll : l.length ≤ 1000000) (hxs : xs.map (ev e) = [.fn 134 [.ptr k 0 0 0]]) (hH : H[k]? = some (.vars [.raw (.map (some mb))])) (hile : i ≤ l.length) (hX : mapX 3 r l n0 A0 (some (mb * (l.length + 2) + i)) w A β)
    (hR : R (Z ((sm r l i).map (·.1))) (some (mb * (l.length + 2) + i))) :
    rel Try.prog o a w fun v w' => ∃ (sv : SV) (g' : Option Nat) (A' : Nat → Prop), R sv g' ∧ mapX 3 r l n0 A0 g' w' A' β ∧ OthStep A0 β A w A' w' ∧ Rep w' A' β sv v := by
  have hg := ghost_div (K := l.length + 2) (mb := mb) (i := i) (by omega)
  obtain ⟨h0, hA, hnb, D, hag, hown⟩ := hX
  rw [hg.2] at hag
  rw [hg.1, hg.2] at hown
  rw [hg.1] at h0 hA hnb
  obtain ⟨c, f', hop, hf', rfl, rfl⟩ := cop_call hcop
  have hr' : ∀ x, x ∈ o.op.operands → Rep w A β (ev e (cOpd x)) (a.eval x) := fun x hx => ev_rep x fun t _ => henv t
  have hfrep := hr' f' (by simp [hop, Op.operands, Call.operands, hf'])
  have hfe : ev e (cOpd f') = .fn 105 [] := by
    unfold fnsOf at hf; split at hf
    · rename_i g' caps' he; cases hf; exact he
    · cases hf
  rw [hfe] at hfrep
  generalize hav : a.eval f' = v at hfrep
  cases hfrep
  rename_i vs hl hh
  obtain rfl : vs = [] := List.eq_nil_of_length_eq_zero hl
  have hargs := map_reps (e := e) (a := a) c.args.toList fun x hx => hr' x (by simp [hop, Op.operands, Call.operands, hf']; exact .inr (by simpa using hx))
  rw [hxs] at hargs
  obtain ⟨hal, har⟩ := hargs
  obtain ⟨u, hu⟩ : ∃ u, c.args.toList.map a.eval = [u] := by
    match h : c.args.toList.map a.eval, hal with
    | [u], _ => exact ⟨u, rfl⟩
  rw [hu] at har
  have hu0 := har 0 _ u rfl rfl
  cases hu0
  rename_i us hul huh
  obtain ⟨p, rfl⟩ : ∃ p, us = [p] := by
    match us, hul with
    | [p], _ => exact ⟨p, rfl⟩
  have hp := huh 0 _ p rfl rfl
  cases hp
  rename_i B hk
  obtain ⟨cs, T, hb, hcl, hcv⟩ := hW.blk k (some B) _ hk hH
  obtain ⟨cv, rfl⟩ : ∃ cv, cs = [cv] := by
    match cs, hcl with
    | [cv], _ => exact ⟨cv, rfl⟩
  have hcv0 := hcv 0 _ cv rfl rfl
  cases hcv0
  have hrun : (execOp a.eval o).run Try.prog w = .ok (.enter 105 #[.func (.func 134) #[] #[.pointer (some ⟨B, 0, none⟩)]]) w := by
    simp only [execOp, hop, resolve, hf', hav, Deferred.ofValue, Sem.run_bind, Sem.run_pure, Result.andThen_ok, invoke]
    have : (#[] ++ c.args.map a.eval ++ [].toArray) = #[.func (.func 134) #[] #[.pointer (some ⟨B, 0, none⟩)]] := by
      apply Array.ext'; simp [hu]
    rw [this]
    exact Try.call105 _ _
  have hperm := perm_keys (up_sm r l i) hag hown
  have hlen : Maps.size D ≤ 1000000 := by
    have h1 := hperm.length_eq
    have h2 := sm_len r l i
    rw [List.length_map] at h1
    obtain ⟨es, rfl⟩ := hag.map
    have h3 : (intKeys (.map es)).length = es.length := by simp [intKeys]
    rw [Maps.size_eq]; omega
  unfold rel
  rw [hrun]
  refine (sorted_calls (heap_lt hb) (by simp [World.cell?, hb]) hown hlen).mono ?_
  rintro e' w' ⟨v, ss, rfl, hS, hrow, hnil, hbel⟩
  have hsrt := sort_keys (up_sm r l i) (hS.trans hperm.symm)
  rw [hsrt] at hrow
  have hmb : mb < w.heap.size := hfin mb hA
  have hsl : ss.length = ((sm r l i).map (·.1)).length := by rw [← hsrt, List.length_mergeSort]
  refine ⟨v, rfl, _, _, A, hR, ?_, ⟨Stp.below hbel, fun b hb _ => hbel.block b hb, fun _ _ => Iff.rfl, fun b h => Nat.lt_of_lt_of_le (hfin b h) hbel.size⟩, ?_⟩
  · show ¬ A0 _ ∧ _ ∧ _ ∧ _
    rw [hg.1, hg.2]
    exact ⟨h0, hA, hnb, D, hag, ownsMap_same hown (hbel.block mb hmb)⟩
  · generalize (sm r l i).map (·.1) = L at *
    rcases hrow.2 with ⟨rfl, hz⟩ | ⟨gb, cap, cur, rfl, hbase, hgb, r1, r2, r3, r4⟩
    · obtain rfl : L = [] := List.eq_nil_of_length_eq_zero (by omega)
      exact .slcZ _ _ _
    · rw [hsl] at r1 r4 ⊢
      have hzl := zs_len L
      rw [← hzl]
      refine .slc β 1 (zs L) gb 0 cap (fun j => cur.getD j undef) ⟨⟨cur, 3, (0, 0), hgb, fun i x j hx hj => ?_⟩, fun ha => by have := hfin gb ha; omega, fun i x hx => ?_⟩ (by omega) fun i x j c hx hc => ?_
      · have hi : i < L.length := by have := (List.getElem?_eq_some_iff.1 hx).1; omega
        have : 0 + i * 1 + j < cur.size := by omega
        rw [Array.getD_eq_getD_getElem?, Array.getElem?_eq_getElem this]; rfl
      · obtain ⟨y, _, rfl⟩ := zs_get hx; rfl
      · obtain ⟨y, hy, rfl⟩ := zs_get hx
        have hi : i < L.length := (List.getElem?_eq_some_iff.1 hy).1
        match j, hc with
        | 0, hc =>
          simp at hc; subst hc
          have hce : cur.toList[i]? = some (encZ y) := by
            have : (List.take (L.length * 1) cur.toList)[i]? = (L.map encZ)[i]? := by rw [r4]
            rw [List.getElem?_take_of_lt (by omega)] at this
            rw [this]; simp [hy]
          have : cur.getD (0 + i * 1 + 0) undef = encZ y := by
            rw [show 0 + i * 1 + 0 = i by omega]
            rw [Array.getElem?_toList] at hce
            simp [Array.getD_eq_getD_getElem?, hce]
          rw [this]; exact .int _ _ _
        | j + 1, hc => simp at hc
end
end
end Go.Proofs.Ytahpfomabgfmkaa
