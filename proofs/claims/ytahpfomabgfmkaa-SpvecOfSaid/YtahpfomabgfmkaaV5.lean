/- The values at some places: Select. A vector without a value: Drop of both. One more item in the midst of a vector's items: slices.Insert. slices.Insert: what it comes to. A vector with a value: spvec.Put. Values assigned at some places: Assign of both. The laws on vectors folded: the program answers as the document. Vectors folded: what is less, alike and more; the least item. Vectors one behind the other: the document's function; what such come to. What is assigned at unlike places is selected there. -/
import Derived.Test.YtahpfomabgfmkaaV4
import Derived.Test.YtahpfomabgfmkaaW1
import Derived.Laws.Externs
import Derived.Deep.RegionLaw
import Derived.Lib.AppendZerosOnto
import Derived.Lib.AppendZeros
import Derived.OwnWalk
namespace Go.Proofs.Ytahpfomabgfmkaa
section
open Go.RowKit
attribute [local irreducible] FS FO IT HS

theorem zs_go {l : List Int} {q i : Nat} {v : Int} {K : List SV → Prop} (hq : q = i) (hv : l.getD i 0 = v) (h : K [.int .i64 v]) : ∀ x, (zs l)[q]? = some x → K x := fun x hx => by
  subst hq
  obtain ⟨y, hy, rfl⟩ := zs_get hx
  have : y = v := by rw [← hv]; simp [hy]
  rw [this]; exact h
end
section
open Go.RowKit
attribute [local irreducible] FS FO IT HS

def ir_spvec_Drop_1 : IR :=
(.seq (.reg (⟨(some 2), .bx (.t 0), none⟩ ::⟨(some 3), .mv (.c (.bool false)), none⟩ :: [])) (.seq (.reg (⟨(some 4), .fa 0 (.t 2), none⟩ ::⟨(some 5), .ld 1 false (.t 4), none⟩ ::⟨(some 6), .ld 1 false (.t 1), none⟩ ::⟨(some 7), .bin .eql (.t 5) (.t 6), none⟩ ::⟨(some 3), .mv (.t 7), none⟩ :: [])) .ret))
theorem cd_spvec_Drop_1 : Code1 Try.prog 99 8 ir_spvec_Drop_1 [.t 3] := ⟨Try.call99, _, _, Try.func99, rfl, by kernel_rfl, by kernel_rfl, by kernel_rfl, by kernel_rfl⟩

theorem fs_Drop1 (p a b : Int) : FS Try.prog 99 [.agg [.int .i64 a, .int .i64 b], .box [.int .i64 p] 0] (.bool (decide (a = p))) := by
  refine fs_of_cvc mixed cd_spvec_Drop_1 (by simp) ?_
  repeat' (conv => whnf); first
    | ((refine Br.beq (by rfl) ?_))
    | ((refine Br.bne (by rfl) ?_))
    | ((refine And.intro (Or.inl (Nat.zero_le _)) ?_))
    | ((refine And.intro (by intro y hy; simp at hy; subst hy; rfl) ?_))
    | (refine Br.tt ?_)
    | (refine Br.ff ?_)
    | (refine Br.dec (fun h => ?_) (fun h => ?_)) <;> try (exfalso; omega)
    | (refine Br.neg ?_)
    | (refine Br.mk (fun h => ?_) (fun h => ?_))
    | (refine And.intro rfl ?_)
    | (refine And.intro (by omega) ?_)
    | (refine ⟨_, Or.inl ⟨⟨by omega, by omega⟩, rfl⟩, ?_⟩)
    | (refine And.intro (by simp only [lens_all, its_len, zs_len]; first | done | omega) ?_)
    | (refine And.intro (Nat.le_refl _) ?_)
    | fail
  all_goals
    show SV.bool _ = SV.bool _
    simp [*]

def ir_spvec_Drop : IR :=
(.seq (.reg (⟨(some 2), .bx (.t 0), none⟩ ::⟨(some 3), .bx (.t 1), none⟩ ::⟨(some 4), .al [.int .i64 0, .nils], none⟩ :: [])) (.seq (.reg (⟨(some 5), .ld 2 true (.t 2), none⟩ ::⟨(some 6), .call (.c (.fn 89 [])) [(.t 5)], none⟩ ::⟨none, .st 2 (.t 2) (.t 6), none⟩ :: [])) (.seq (.draw (⟨(some 7), .fa 0 (.t 2), none⟩ ::⟨(some 8), .ld 1 false (.t 7), none⟩ ::⟨(some 9), .fa 1 (.t 2), none⟩ ::⟨(some 10), .ld 1 false (.t 9), none⟩ ::⟨(some 11), .call (.c (.fn 96 [])) [(.t 10)], none⟩ ::⟨(some 12), .fn 99 [(.t 3)], none⟩ ::⟨(some 13), .call (.c (.fn 98 [])) [(.t 11), (.t 12)], none⟩ :: []) (⟨(some 14), .bld [.int .i64 0, .nils] [(0, 1, (.t 8)), (1, 1, (.t 13))], none⟩ ::⟨none, .st 2 (.t 4) (.t 14), none⟩ :: [])) .ret)))
theorem cd_spvec_Drop : Code1 Try.prog 48 15 ir_spvec_Drop [.c 2 true 4] := ⟨Try.call48, _, _, Try.func48, rfl, by kernel_rfl, by kernel_rfl, by kernel_rfl, by kernel_rfl⟩

theorem fs_vDrop (n : Int) (l : List (Int × Int)) (p : Int) (hl : l.length ≤ 1000000000) : FS Try.prog 48 [VC n l, .int .i64 p] (VC (sn n l) (rest (fun x => decide (x.1 = p)) (sl n l))) := by
  refine fs_of_cvc mixed cd_spvec_Drop (by simp) ?_
  have hl2 := sl_len n l
  have c := hs_Delete 99 [.box [.int .i64 p] 0] (fun x => decide (x.1 = p)) (sl n l) (by omega) (fun _ _ => rfl) fun x _ => fs_Drop1 p x.1 x.2
  repeat' (conv => whnf); first
    | ((refine Or.inl ⟨by rfl, _, fs_vsure n l hl, ?_⟩))
    | ((refine Or.inr (Or.inr (Or.inr (Or.inl ?_))); (conv => whnf); refine ⟨rfl, rfl, ?_⟩; (conv => whnf); refine ⟨_, _, _, _, c, rfl, its_loose _, ?_⟩))
    | ((refine Or.inr (Or.inr (Or.inr (Or.inr (Or.inr ?_)))); (conv => whnf); refine ⟨_, _, _, fo_vClone (sl n l) (by omega), rfl, its_loose _, ?_⟩))
    | ((refine Br.beq (by rfl) ?_))
    | ((refine Br.bne (by rfl) ?_))
    | ((refine And.intro (Or.inl (Nat.zero_le _)) ?_))
    | ((refine And.intro (by intro y hy; simp at hy; subst hy; rfl) ?_))
    | (refine Br.tt ?_)
    | (refine Br.ff ?_)
    | (refine Br.dec (fun h => ?_) (fun h => ?_)) <;> try (exfalso; omega)
    | (refine Br.neg ?_)
    | (refine Br.mk (fun h => ?_) (fun h => ?_))
    | (refine And.intro rfl ?_)
    | (refine And.intro (by omega) ?_)
    | (refine ⟨_, Or.inl ⟨⟨by omega, by omega⟩, rfl⟩, ?_⟩)
    | (refine And.intro (by simp only [lens_all, its_len]; first | done | omega) ?_)
    | (refine And.intro (Nat.le_refl _) ?_)
    | fail
  conv => whnf
  rw [frz_rest]
  rfl

def ir_fretworkref09_Drop : IR :=
(.seq (.reg (⟨(some 2), .bx (.t 0), none⟩ ::⟨(some 4), .al [.int .i64 0, .nils], none⟩ :: [])) (.seq (.reg (⟨(some 7), .ld 2 true (.t 2), none⟩ ::⟨(some 8), .call (.c (.fn 76 [])) [(.t 7)], none⟩ ::⟨none, .st 2 (.t 2) (.t 8), none⟩ :: [])) (.seq (.reg (⟨(some 9), .fa 0 (.t 2), none⟩ ::⟨(some 10), .ld 1 false (.t 9), none⟩ ::⟨(some 11), .bld [.int .i64 0, .nils] [(0, 1, (.t 10))], none⟩ ::⟨(some 5), .al [.int .i64 0, .nils], none⟩ ::⟨none, .st 2 (.t 5) (.t 11), none⟩ :: [])) (.seq (.seq (.reg (⟨(some 6), .mv (.c (.int .i64 0)), none⟩ :: [])) (.block 0 (.loop (.seq (.seq (.reg (⟨(some 12), .mv (.t 6), none⟩ ::⟨(some 13), .fa 1 (.t 2), none⟩ ::⟨(some 14), .ld 1 false (.t 13), none⟩ ::⟨(some 15), .ln (.t 14), none⟩ ::⟨(some 16), .bin .lss (.t 12) (.t 15), none⟩ :: [])) (.cond (.t 16) .skip (.exit 0))) (.seq (.block 1 (.seq (.reg (⟨(some 19), .fa 1 (.t 2), none⟩ ::⟨(some 20), .ld 1 false (.t 19), none⟩ ::⟨(some 21), .mv (.t 6), none⟩ ::⟨(some 22), .ia 2 (.t 20) (.t 21), none⟩ ::⟨(some 23), .fa 0 (.t 22), none⟩ ::⟨(some 24), .ld 1 false (.t 23), none⟩ ::⟨(some 25), .mv (.t 1), none⟩ ::⟨(some 26), .bin .neq (.t 24) (.t 25), none⟩ :: [])) (.cond (.t 26) (.draw (⟨(some 27), .fa 1 (.t 5), none⟩ ::⟨(some 28), .ld 1 false (.t 27), none⟩ ::⟨(some 29), .fa 1 (.t 2), none⟩ ::⟨(some 30), .ld 1 false (.t 29), none⟩ ::⟨(some 31), .mv (.t 6), none⟩ ::⟨(some 32), .ia 2 (.t 30) (.t 31), none⟩ ::⟨(some 33), .ld 2 true (.t 32), none⟩ ::⟨(some 34), .bsl 1 2 [.int .i64 0, .int .i64 0] [(0, (.t 33))], none⟩ :: []) (⟨(some 35), .ap 2 16 (.t 28) (.t 34), none⟩ ::⟨(some 36), .fa 1 (.t 5), none⟩ ::⟨none, .st 1 (.t 36) (.t 35), none⟩ :: [])) .skip))) (.reg (⟨(some 17), .mv (.t 6), none⟩ ::⟨(some 18), .bin .add (.t 17) (.c (.int .i64 1)), none⟩ ::⟨(some 6), .mv (.t 18), none⟩ :: []))))))) (.seq (.reg (⟨(some 37), .ld 2 true (.t 5), none⟩ ::⟨none, .st 2 (.t 4) (.t 37), none⟩ :: [])) .ret)))))
theorem cd_fretworkref09_Drop : Code1 Try.prog 57 38 ir_fretworkref09_Drop [.c 2 true 4] := ⟨Try.call57, _, _, Try.func57, rfl, by kernel_rfl, by kernel_rfl, by kernel_rfl, by kernel_rfl⟩

set_option maxHeartbeats 4000000 in
theorem fs_r9Drop (n : Int) (l : List (Int × Int)) (p : Int) (hl : l.length ≤ 400000000) : FS Try.prog 57 [VC n l, .int .i64 p] (VC (sn n l) (rest (fun x => decide (x.1 = p)) (sl n l))) := by
  refine fs_of_cvc mixed cd_fretworkref09_Drop (by simp) ?_
  have c1 := fs_r9Sure n l (by omega)
  have s1 := sl_len n l
  generalize sn n l = N1 at *
  generalize sl n l = a at *
  have hal := its_len a
  repeat' (conv => whnf); first
    | ((refine Or.inl ⟨by rfl, _, c1, ?_⟩))
    | ((refine Br.beq (by rfl) ?_))
    | ((refine Br.bne (by rfl) ?_))
    | ((refine And.intro (Or.inl (Nat.zero_le _)) ?_))
    | ((refine And.intro (by intro y hy; simp at hy; subst hy; rfl) ?_))
    | (refine Br.tt ?_)
    | (refine Br.ff ?_)
    | (refine Br.dec (fun h => ?_) (fun h => ?_)) <;> try (exfalso; omega)
    | (refine Br.neg ?_)
    | (refine Br.mk (fun h => ?_) (fun h => ?_))
    | (refine And.intro rfl ?_)
    | (refine And.intro (by omega) ?_)
    | (refine ⟨_, Or.inl ⟨⟨by omega, by omega⟩, rfl⟩, ?_⟩)
    | (refine And.intro (by simp only [lens_all]; first | done | omega) ?_)
    | (refine And.intro (Nat.le_refl _) ?_)
    | fail
  refine ⟨Nat, fun j => j ≤ a.length, fun j => [(1, .int .i64 p), (2, .ptr 0 0 0 0), (4, .ptr 1 0 0 0), (5, .ptr 2 0 0 0), (6, .int .i64 (j : Int))], fun j => [.vars [.int .i64 N1, IL a], .vars [.int .i64 0, .nils], .vars [.int .i64 N1, .osl 3 2 0 (rest (fun x => decide (x.1 = p)) (a.take j)).length], .arr 2 (its (rest (fun x => decide (x.1 = p)) (a.take j)))], fun _ => none, fun j => a.length - j,
    ⟨0, Nat.zero_le _, ⟨rfl, rfl, rfl, rfl, rfl, trivial⟩, ⟨⟨rfl, rfl, trivial⟩, ⟨rfl, rfl, trivial⟩, ⟨rfl, ⟨Nat.le_refl _, rfl, rfl⟩, trivial⟩, rfl, trivial⟩, rfl⟩, fun j hj => ?_⟩
  have hj : j ≤ a.length := hj
  by_cases hja : j < a.length
  · obtain ⟨x, hx⟩ : ∃ x, a.getD j (0, 0) = x := ⟨_, rfl⟩
    have hst := rest_take (p := fun x => decide (x.1 = p)) (show a[j]? = some x by rw [← hx]; simp [hja])
    have hfl := rest_le (fun x => decide (x.1 = p)) (a.take j)
    have htl : (a.take j).length ≤ a.length := by simp; omega
    repeat' (conv => whnf); first
      | ((refine its_go' (i := j) (by omega) hx ?_))
      | ((refine Br.beq (by rfl) ?_))
      | ((refine Br.bne (by rfl) ?_))
      | ((refine And.intro (Or.inl (Nat.zero_le _)) ?_))
      | ((refine And.intro (by intro y hy; simp at hy; subst hy; rfl) ?_))
      | (refine Br.tt ?_)
      | (refine Br.ff ?_)
      | (refine Br.dec (fun h => ?_) (fun h => ?_)) <;> try (exfalso; omega)
      | (refine Br.neg ?_)
      | (refine Br.mk (fun h => ?_) (fun h => ?_))
      | (refine And.intro rfl ?_)
      | (refine And.intro (by omega) ?_)
      | (refine ⟨_, Or.inl ⟨⟨by omega, by omega⟩, rfl⟩, ?_⟩)
      | (refine And.intro (by simp only [lens_all, its_len]; first | done | omega) ?_)
      | (refine And.intro (Nat.le_refl _) ?_)
      | fail
    · rw [if_neg (by simpa using h)] at hst
      refine ⟨j + 1, (show j + 1 ≤ a.length by omega), (show a.length - (j + 1) < a.length - j by omega), ⟨rfl, rfl, rfl, rfl, rfl, trivial⟩, ⟨⟨rfl, rfl, trivial⟩, ⟨rfl, rfl, trivial⟩, ⟨rfl, ?_, trivial⟩, ?_, trivial⟩, rfl⟩
      · refine congrArg (SV.osl 3 2 0) ?_
        rw [hst]; simp
      · refine congrArg (Blk.arr 2) ?_
        rw [hst, its_append]; rfl
    · have hxp : x.1 = p := by omega
      rw [if_pos (by simpa using hxp), List.append_nil] at hst
      refine ⟨j + 1, (show j + 1 ≤ a.length by omega), (show a.length - (j + 1) < a.length - j by omega), ⟨rfl, rfl, rfl, rfl, rfl, trivial⟩, ⟨⟨rfl, rfl, trivial⟩, ⟨rfl, rfl, trivial⟩, ⟨rfl, ?_, trivial⟩, ?_, trivial⟩, rfl⟩
      · rw [hst]; exact rfl
      · rw [hst]; exact rfl
  · obtain rfl : j = a.length := by omega
    repeat' (conv => whnf); first
      | ((refine Br.beq (by rfl) ?_))
      | ((refine Br.bne (by rfl) ?_))
      | ((refine And.intro (Or.inl (Nat.zero_le _)) ?_))
      | ((refine And.intro (by intro y hy; simp at hy; subst hy; rfl) ?_))
      | (refine Br.tt ?_)
      | (refine Br.ff ?_)
      | (refine Br.dec (fun h => ?_) (fun h => ?_)) <;> try (exfalso; omega)
      | (refine Br.neg ?_)
      | (refine Br.mk (fun h => ?_) (fun h => ?_))
      | (refine And.intro rfl ?_)
      | (refine And.intro (by omega) ?_)
      | (refine ⟨_, Or.inl ⟨⟨by omega, by omega⟩, rfl⟩, ?_⟩)
      | (refine And.intro (by simp only [lens_all, its_len]; first | done | omega) ?_)
      | (refine And.intro (Nat.le_refl _) ?_)
      | fail
    conv => whnf
    have e1 : a.take a.length = a := List.take_length
    rw [frz_its, e1]
    rfl
end
section
open Go.RowKit
attribute [local irreducible] FS FO IT HS

section
variable {P : Program}

/-- The library's own question whether two slices share cells: a row of one's own and another block do not. -/
theorem run_overlaps_own (w : World) (tS tR e : TypeId) (ht : P.underlying tS = some (.slice e)) (size : Nat) (hz : ∀ w, (Go.sizeOf e).run P w = .ok size w)
    (a b : Addr) (la ca lb cb : Nat) (hne : a.block ≠ b.block) (tA tB : TypeId) (kA kB : Nat)
    (hsa : w.shape? a.block = some (tA, kA)) (hkA : kA ≠ 0) (hsb : w.shape? b.block = some (tB, kB))
    (hfb : w.frozen? b = false) (hfe : w.frozen? { block := b.block, off := kB } = false) :
    (Extern.SlicesOverlaps.overlaps #[tS, tS] #[tR] #[.slice (some a) la ca, .slice (some b) lb cb]).run P w = .ok (.bool false) w := by
  have hnb : (a.block != b.block) = true := by simpa using hne
  have hnb' : (a.block == b.block) = false := by simpa using hne
  delta Extern.SlicesOverlaps.overlaps
  conv => lhs; arg 2; whnf
  have hbd : ∀ (α β : Type) (x : Sem α) (f : α → Sem β), Sem.bind x f = x >>= f := fun _ _ _ _ => rfl
  have hpu : ∀ (α : Type) (x : α), (Sem.pure x : Sem α) = pure x := fun _ _ => rfl
  by_cases h0 : la = 0 ∨ lb = 0 ∨ size = 0
  · simp [hbd, hpu, Sem.run, ht, hz, h0]
  · cases kA with
    | zero => exact absurd rfl hkA
    | succ kA =>
      by_cases hfa : w.frozen? a = true
      · simp [hbd, hpu, Sem.run, ht, hz, h0, hnb, hnb', frozen, noView, viewAt, mayBeOne, stringish, shape, hsa, hsb, hfa, hfb, hfe]
      · simp only [Bool.not_eq_true] at hfa
        by_cases hfc : w.frozen? { block := a.block, off := kA + 1 } = true
        · simp [hbd, hpu, Sem.run, ht, hz, h0, hnb, hnb', frozen, noView, viewAt, mayBeOne, stringish, shape, hsa, hsb, hfa, hfb, hfe, hfc]
        · simp only [Bool.not_eq_true] at hfc
          simp [hbd, hpu, Sem.run, ht, hz, h0, hnb, hnb', frozen, noView, viewAt, mayBeOne, stringish, shape, hsa, hsb, hfa, hfb, hfe, hfc]

theorem run_copy_row (w : World) (dT sT ty el T : TypeId) (b o dLen dCap sLen sCap wd : Nat) (a : Addr) (cs news : List Value) (hb : w.heap[b]? = some (.cells cs.toArray T (0, 0)))
    (hu : P.underlying dT = some (.slice el)) (hs : szOf P el = some wd) (hl : news.length = min sLen dLen * wd) (hsrc : ∀ j v, news[j]? = some v → w.cell? (a.add j) = some v) (ho : o + news.length ≤ cs.length) (h1 : ∀ v ∈ news, v.oneCell' = true) :
    (Builtin.copy_ #[dT, sT] ty #[.slice (some ⟨b, o, none⟩) dLen dCap, .slice (some a) sLen sCap]).run P w = .ok (goInt (min sLen dLen : Nat)) (w.setRow b (cs.take o ++ (news ++ cs.drop (o + news.length))).toArray) := by
  have hfirst : (Builtin.firstCells wd (Nat.min sLen dLen) (.slice (some a) sLen sCap)).run P w = .ok news.toArray w :=
    run_firstCells_some w wd _ _ _ sCap _ hl fun j v hj => hsrc j v hj
  have hst := run_storeCells_at P b o T news 0 cs.toArray w hb (by simpa using ho) h1
  simp only [Nat.add_zero, List.append_assoc] at hst
  simp only [Builtin.copy_, List.getElem?_toArray, List.getElem?_cons_zero, List.getElem?_cons_succ, Sem.run_bind, run_under hu, Result.andThen_ok, Builtin.lenOf, Sem.run_pure, run_size hs, hfirst]
  rw [hst]
  rfl

/-- The operation 'copy', where its run is known. -/
theorem wpl_copy (w : World) {ops : Array Oper} {rest : List Oper} {o : Oper} {a : Act} {Q : Exit → Act → World → Prop} (hgd : o.guard = none) (d s : Operand) (t t' : TypeId)
    (ho : o.op = .call { callee := .builtin .copy, args := #[d, s], argTypes := #[t, t'] }) (v u : Value) (hd : a.eval d = v) (hs : a.eval s = u) {v' : Value} {w' : World}
    (hr : (Builtin.copy_ #[t, t'] o.type #[v, u]).run P w = .ok v' w') (h : wpList P ops Q rest (a.put o.dst v') w') : wpList P ops Q (o :: rest) a w :=
  wpList_plain hgd fun K hK => by
    unfold Oper.wp execOp
    simp only [ho, resolve, invoke, builtin, Sem.run_bind, Sem.run_pure, Result.andThen_ok, List.map_toArray, List.map_cons, List.map_nil, hd, hs, hr]
    exact hK _ _ h
theorem step_copy {ops : Array Oper} {o : Oper} {a : Act} {w : World} {K : Act → World → Prop} {Q : Exit → Act → World → Prop} {E : Prop}
    (hg : o.guard = none) (d x : Operand) (dT sT : TypeId) (hop : o.op = Op.call { callee := Callee.builtin Builtin.copy, args := #[d, x], argTypes := #[dT, sT] })
    (v u : Value) (hd : a.eval d = v) (hx : a.eval x = u) {v' : Value} {w' : World} (hr : (Builtin.copy_ #[dT, sT] o.type #[v, u]).run P w = .ok v' w') (hK : K (a.put o.dst v') w') :
    if Region.wanted o (yielded ops a.tmps) = true then Oper.wp P o a w K Q else E := by
  have hw : Region.wanted o (yielded ops a.tmps) = true := by simp [Region.wanted, hg]
  rw [if_pos hw]
  unfold Oper.wp
  simp [execOp, hop, resolve, invoke, builtin, hd, hx, hr, Result.andThen]
  exact hK

end

/-- What the cells hold when those from i on went one item further; when two cells stand at i. -/
def shf (cs : List Value) (n i : Nat) : List Value := cs.take ((i + 1) * 2) ++ ((cs.drop (i * 2)).take ((n - i) * 2) ++ cs.drop ((i + 1) * 2 + ((cs.drop (i * 2)).take ((n - i) * 2)).length))
def pt2 (cs : List Value) (i : Nat) (u0 u1 : Value) : List Value := cs.take (i * 2) ++ ([u0, u1] ++ cs.drop (i * 2 + [u0, u1].length))

set_option maxHeartbeats 4000000 in
set_option maxRecDepth 100000 in
theorem ins_shift (w : World) (b n cap i vb voff vcap : Nat) (cs : List Value) (T : TypeId) (u0 u1 : Value) (vs : Array Value) (Tv : TypeId) (fr : Nat × Nat) (hi : i < n) (hn : n ≤ 1000000000) (hroom : n + 1 ≤ cap)
    (hb : w.heap[b]? = some (.cells cs.toArray T (0, 0))) (hcs : cap * 2 ≤ cs.length) (hone : ∀ j v, j < n * 2 → cs[j]? = some v → v.oneCell' = true) (hvb : vb ≠ b) (hv : w.heap[vb]? = some (.cells vs Tv fr)) (hv0 : vs[voff]? = some u0) (hv1 : vs[voff + 1]? = some u1)
    (h0 : u0.oneCell' = true) (h1 : u1.oneCell' = true) :
    Calls Try.prog 97 #[.slice (some ⟨b, 0, none⟩) n cap, .int .i64 i, .slice (some ⟨vb, voff, none⟩) 1 vcap] w fun e w' =>
      e = .returned (.slice (some ⟨b, 0, none⟩) (n + 1) cap) ∧ w' = (w.drew.setRow b (shf cs n i).toArray).setRow b (pt2 (shf cs n i) i u0 u1).toArray := by
  have hz2 : ¬ ((i : Int) = (n : Int)) := by omega
  have hz3 : ¬ ((cap : Int) < (n : Int) + 1) := by omega
  have hw1 : IntKind.i64.wrap ((i : Int) + 1) = (i : Int) + 1 := wrap_i64_id (by omega) (by omega)
  have hw2 : IntKind.i64.wrap ((n : Int) + 1) = (n : Int) + 1 := wrap_i64_id (by omega) (by omega)
  have mixed := mixed
  have hcell : ∀ j, w.drew.cell? ⟨b, j, none⟩ = cs[j]? := fun j => by
    have hb' : w.drew.heap[b]? = some (.cells cs.toArray T (0, 0)) := hb
    rw [cell_of hb']; simp
  have hlen : ((cs.drop (i * 2)).take ((n - i) * 2)).length = (n - i) * 2 := by simp; omega
  have hov : ∀ lb cb, (callFunc 126 #[.slice (some ⟨vb, voff, none⟩) 1 vcap, .slice (some ⟨b, (i + 1) * 2, none⟩) lb cb]).run Try.prog w = .ok (.value (.bool false)) w := fun lb cb => by
    have h := run_overlaps_own (P := Try.prog) w 26 4 39 Try.underlying26 2 Try.sizeOf39 ⟨vb, voff, none⟩ ⟨b, (i + 1) * 2, none⟩ 1 vcap lb cb hvb Tv T vs.size cs.length (by simp [World.shape?, hv]) (by have := (Array.getElem?_eq_some_iff.1 hv0).1; omega) (by simp [World.shape?, hb]) (by simp [World.frozen?, hb]) (by simp [World.frozen?, hb])
    rw [run_callFunc_extern Try.func126 (by kernel_rfl) (by kernel_rfl) (by kernel_rfl) (e := Extern.SlicesOverlaps.overlaps #[26, 26] #[4]) (by kernel_rfl), h]
    rfl
  have hcp1 : ∀ ty dc sc, (Builtin.copy_ #[26, 26] ty #[.slice (some ⟨b, (i + 1) * 2, none⟩) (n - i) dc, .slice (some ⟨b, i * 2, none⟩) (n + 1 - i) sc]).run Try.prog w.drew = .ok (goInt (min (n + 1 - i) (n - i) : Nat)) (w.drew.setRow b (shf cs n i).toArray) := fun ty dc sc => by
    have hb' : w.drew.heap[b]? = some (.cells cs.toArray T (0, 0)) := hb
    refine run_copy_row w.drew 26 26 ty 39 T b ((i + 1) * 2) (n - i) dc (n + 1 - i) sc 2 ⟨b, i * 2, none⟩ cs _ hb' Try.underlying26 (by kernel_rfl) (by rw [hlen]; congr 1; omega) (fun j v hj => ?_) (by rw [hlen]; omega) fun v hv => ?_
    · have hj' := (List.getElem?_eq_some_iff.1 hj).1
      rw [hlen] at hj'
      rw [addr_add, hcell]
      rw [List.getElem?_take_of_lt (by omega), List.getElem?_drop] at hj
      exact hj
    · obtain ⟨j, hj⟩ := List.mem_iff_getElem?.1 hv
      have hj' := (List.getElem?_eq_some_iff.1 hj).1
      rw [hlen] at hj'
      rw [List.getElem?_take_of_lt (by omega), List.getElem?_drop] at hj
      exact hone _ _ (by omega) hj
  have hsl : (shf cs n i).length = cs.length := by simp [shf, hlen]; omega
  obtain ⟨W1, hW1⟩ : ∃ W1, W1 = w.drew.setRow b (shf cs n i).toArray := ⟨_, rfl⟩
  have hb1 : W1.heap[b]? = some (.cells (shf cs n i).toArray T (0, 0)) := by rw [hW1]; exact setRow_heap w.drew b _ _ _ _ hb
  have hv1' : W1.heap[vb]? = some (.cells vs Tv fr) := by rw [hW1, setRow_other _ _ _ _ hvb]; exact hv
  have hcp2 : ∀ ty dc, (Builtin.copy_ #[26, 26] ty #[.slice (some ⟨b, i * 2, none⟩) (n + 1 - i) dc, .slice (some ⟨vb, voff, none⟩) 1 vcap]).run Try.prog W1 = .ok (goInt (min 1 (n + 1 - i) : Nat)) (W1.setRow b (pt2 (shf cs n i) i u0 u1).toArray) := fun ty dc => by
    refine run_copy_row W1 26 26 ty 39 T b (i * 2) (n + 1 - i) dc 1 vcap 2 ⟨vb, voff, none⟩ (shf cs n i) [u0, u1] hb1 Try.underlying26 (by kernel_rfl) (by show 2 = min 1 (n + 1 - i) * 2; omega) (fun j v hj => ?_) (by show i * 2 + 2 ≤ _; rw [hsl]; omega) fun v hv => ?_
    · rw [addr_add, cell_of hv1']
      match j, hj with
      | 0, hj => simp at hj; rw [← hj]; exact hv0
      | 1, hj => simp at hj; rw [← hj]; exact hv1
      | j + 2, hj => simp at hj
    · simp at hv; rcases hv with rfl | rfl
      · exact h0
      · exact h1
  subst hW1
  have hq1 : (0 : Int) ≤ (i : Int) + 1 := by omega
  have hq2 : i ≤ n := by omega
  have hq3 : ¬ (cap = i + 1) := by omega
  have hq4 : ¬ (cap = i) := by omega
  have hq5 : (i : Int) ≤ (n : Int) + 1 := by omega
  have hq6 : ((i : Int) + 1).toNat = i + 1 := by omega
  go_enter Try.func97, Try.ntmps97
  go_wp2_with (simp only [hov])
  go_region_law (refine step_copy rfl _ _ 26 26 rfl _ _ (by simp [Act.eval, Act.put]) (by simp [Act.eval, Act.put]) (hcp1 _ _ _) ?_)
  go_wp2_with (simp only [hcp2, Result.andThen_ok])
  go_ret
  exact ⟨rfl, rfl⟩

/-- When there is no room: from the i-th cell pair on the new one, and behind it what stood there. -/
def gr2 (row cs : List Value) (n i : Nat) : List Value := row.take ((i + 1) * 2) ++ ((cs.drop (i * 2)).take ((n - i) * 2) ++ row.drop ((i + 1) * 2 + ((cs.drop (i * 2)).take ((n - i) * 2)).length))

set_option maxHeartbeats 4000000 in
set_option maxRecDepth 100000 in
theorem ins_grow (w : World) (b n i vb voff vcap : Nat) (cs : List Value) (T : TypeId) (u0 u1 : Value) (vs : Array Value) (Tv : TypeId) (fr : Nat × Nat) (hi : i < n) (hn : n ≤ 1000000000)
    (hb : w.heap[b]? = some (.cells cs.toArray T (0, 0))) (hcs : n * 2 ≤ cs.length) (hone : ∀ j v, j < n * 2 → cs[j]? = some v → v.oneCell' = true) (hv : w.heap[vb]? = some (.cells vs Tv fr)) (hv0 : vs[voff]? = some u0) (hv1 : vs[voff + 1]? = some u1)
    (h0 : u0.oneCell' = true) (h1 : u1.oneCell' = true) :
    Calls Try.prog 97 #[.slice (some ⟨b, 0, none⟩) n n, .int .i64 i, .slice (some ⟨vb, voff, none⟩) 1 vcap] w fun e w' =>
      ∃ (G : Nat) (Z : List Value), n + 1 ≤ G ∧ Z.length = (G - i) * 2 ∧ e = .returned (.slice (some ⟨w.heap.size, 0, none⟩) (n + 1) G) ∧ Below w.heap.size w w' ∧
        w'.heap[w.heap.size]? = some (.cells (gr2 (pt2 (cs.take (i * 2) ++ Z) i u0 u1) cs n i).toArray 39 (0, 0)) := by
  have hz2 : ¬ ((i : Int) = (n : Int)) := by omega
  have hw2 : IntKind.i64.wrap ((n : Int) + 1) = (n : Int) + 1 := wrap_i64_id (by omega) (by omega)
  have hw1 : IntKind.i64.wrap ((i : Int) + 1) = (i : Int) + 1 := wrap_i64_id (by omega) (by omega)
  have hw3 : IntKind.i64.wrap ((n : Int) + 1 - (i : Int)) = ((n + 1 - i : Nat) : Int) := by rw [wrap_i64_id (by omega) (by omega)]; omega
  have mixed := mixed
  have hbw : b < w.heap.size := heap_lt hb
  have hvw : vb < w.heap.size := heap_lt hv
  obtain ⟨i0, hi0, hz0, hs0, hb0⟩ : ∃ i0 : TypeInfo, Try.prog.info? 39 = some i0 ∧ i0.zero = some (.agg #[.int .i64 0, .int .i64 0]) ∧ i0.size = 2 ∧ i0.bytes = 16 := ⟨_, rfl, rfl, rfl, rfl⟩
  have hcell : ∀ j, w.drew.cell? ⟨b, j, none⟩ = cs[j]? := fun j => by
    have hb' : w.drew.heap[b]? = some (.cells cs.toArray T (0, 0)) := hb
    rw [cell_of hb']; simp
  have hlen : ((cs.drop (i * 2)).take ((n - i) * 2)).length = (n - i) * 2 := by simp; omega
  have hol : (cs.take (i * 2)).length = i * 2 := by simp; omega
  have hold : (Builtin.firstCells i0.size i (.slice (some ⟨b, 0, none⟩) i n)).run Try.prog w.drew = .ok (cs.take (i * 2)).toArray w.drew := by
    rw [hs0]
    exact run_firstCells_some w.drew 2 i ⟨b, 0, none⟩ i n _ hol fun j v hj => by
      have hj' := (List.getElem?_eq_some_iff.1 hj).1
      rw [hol] at hj'
      rw [addr_add, Nat.zero_add, hcell]
      rw [List.getElem?_take_of_lt (by omega)] at hj
      exact hj
  obtain ⟨G, hG⟩ : ∃ G, grownCap w (i + (n + 1 - i)) n 39 = G := ⟨_, rfl⟩
  have hGn : n + 1 ≤ G := by
    have := grownCap_ge w (i + (n + 1 - i)) n 39
    omega
  obtain ⟨Z, hZ⟩ : ∃ Z : List Value, (Builtin.zeroCells (Value.agg #[.int .i64 0, .int .i64 0]).cells (n + 1 - i)).toList ++ (Builtin.zeroCells (Value.agg #[.int .i64 0, .int .i64 0]).cells (G - (i + (n + 1 - i)))).toList = Z := ⟨_, rfl⟩
  have hZl : Z.length = (G - i) * 2 := by
    rw [← hZ]
    simp [Builtin.zeroCells, Value.cells]
    omega
  have hrz : ∀ ty, (Builtin.append_ #[26, 3] ty #[.slice (some ⟨b, 0, none⟩) i n, .int .i64 ((n + 1 - i : Nat) : Int)]).run Try.prog w =
      .ok (.slice (some ⟨w.heap.size, 0, none⟩) (n + 1) G) (w.drew.alloc (.cells (cs.take (i * 2) ++ Z).toArray 39)) := fun ty => by
    have h := Lib.run_append_grow_zeros (P := Try.prog) w 26 3 ty 39 i0 _ .i64 .i64 Try.underlying26 Try.underlying3 hi0 hz0 (some ⟨b, 0, none⟩) i n (cs.take (i * 2)) hold (n + 1 - i) (by omega) (by rw [hs0]; omega) (by omega) (by omega) (by rw [hb0]; omega) (by rw [hb0]; exact growslice_fits (by omega) (by omega))
    rw [hG] at h
    rw [h]
    congr 1
    · congr 1; omega
    · congr 2
      apply Array.ext'
      rw [← hZ]; simp
  have hnl : (cs.take (i * 2) ++ Z).length = G * 2 := by rw [List.length_append, hol, hZl]; omega
  -- the new row
  obtain ⟨W1, hW1⟩ : ∃ W1, W1 = w.drew.alloc (.cells (cs.take (i * 2) ++ Z).toArray 39) := ⟨_, rfl⟩
  have hbel1 : Below w.heap.size w W1 := by rw [hW1]; exact ((Below.refl _ _).drew).alloc (by simp) _
  have hnew1 : W1.heap[w.heap.size]? = some (.cells (cs.take (i * 2) ++ Z).toArray 39 (0, 0)) := by
    rw [hW1]; exact World.alloc_heap_new w.drew _
  rw [← hW1] at hrz
  clear hW1 hZ
  -- the new pair
  have hpl : (pt2 (cs.take (i * 2) ++ Z) i u0 u1).length = G * 2 := by
    show ((cs.take (i * 2) ++ Z).take (i * 2) ++ (u0 :: u1 :: (cs.take (i * 2) ++ Z).drop (i * 2 + 2))).length = G * 2
    rw [List.length_append, List.length_take, List.length_cons, List.length_cons, List.length_drop, hnl]; omega
  obtain ⟨W2, hW2⟩ : ∃ W2, W2 = W1.setRow w.heap.size (pt2 (cs.take (i * 2) ++ Z) i u0 u1).toArray := ⟨_, rfl⟩
  have hset : ∀ (W : World) (x : Array Value), Below w.heap.size w W → Below w.heap.size w (W.setRow w.heap.size x) := fun W x hB =>
    ⟨hB.os, hB.tape, hB.output, by simpa [World.setRow] using hB.size, fun k hk => by rw [setRow_other _ _ _ _ (by omega)]; exact hB.block k hk⟩
  have hcpA : ∀ ty dc, (Builtin.copy_ #[26, 26] ty #[.slice (some ⟨w.heap.size, i * 2, none⟩) (n + 1 - i) dc, .slice (some ⟨vb, voff, none⟩) 1 vcap]).run Try.prog W1 = .ok (goInt (min 1 (n + 1 - i) : Nat)) W2 := fun ty dc => by
    rw [hW2]
    refine run_copy_row W1 26 26 ty 39 39 w.heap.size (i * 2) (n + 1 - i) dc 1 vcap 2 ⟨vb, voff, none⟩ (cs.take (i * 2) ++ Z) [u0, u1] hnew1 Try.underlying26 (by kernel_rfl) (by show 2 = min 1 (n + 1 - i) * 2; omega) (fun j v hj => ?_) (by show i * 2 + 2 ≤ _; rw [hnl]; omega) fun v hv => ?_
    · have hv1' : W1.heap[vb]? = some (.cells vs Tv fr) := by rw [hbel1.block vb hvw]; exact hv
      rw [addr_add, cell_of hv1']
      match j, hj with
      | 0, hj => simp at hj; rw [← hj]; exact hv0
      | 1, hj => simp at hj; rw [← hj]; exact hv1
      | j + 2, hj => simp at hj
    · simp at hv; rcases hv with rfl | rfl
      · exact h0
      · exact h1
  have hbel2 : Below w.heap.size w W2 := by rw [hW2]; exact hset _ _ hbel1
  have hnew2 : W2.heap[w.heap.size]? = some (.cells (pt2 (cs.take (i * 2) ++ Z) i u0 u1).toArray 39 (0, 0)) := by rw [hW2]; exact setRow_heap _ _ _ _ _ _ hnew1
  clear hW2
  -- what stood behind
  obtain ⟨W3, hW3⟩ : ∃ W3, W3 = W2.drew.setRow w.heap.size (gr2 (pt2 (cs.take (i * 2) ++ Z) i u0 u1) cs n i).toArray := ⟨_, rfl⟩
  have hcpB : ∀ ty dc sc, (Builtin.copy_ #[26, 26] ty #[.slice (some ⟨w.heap.size, (i + 1) * 2, none⟩) (n - i) dc, .slice (some ⟨b, i * 2, none⟩) (n - i) sc]).run Try.prog W2.drew = .ok (goInt (min (n - i) (n - i) : Nat)) W3 := fun ty dc sc => by
    rw [hW3]
    have hb' : W2.drew.heap[b]? = some (.cells cs.toArray T (0, 0)) := by
      show W2.heap[b]? = _
      rw [hbel2.block b hbw]; exact hb
    refine run_copy_row W2.drew 26 26 ty 39 39 w.heap.size ((i + 1) * 2) (n - i) dc (n - i) sc 2 ⟨b, i * 2, none⟩ (pt2 (cs.take (i * 2) ++ Z) i u0 u1) _ hnew2 Try.underlying26 (by kernel_rfl) (by rw [hlen]; congr 1; omega) (fun j v hj => ?_) (by rw [hlen, hpl]; omega) fun v hv => ?_
    · have hj' := (List.getElem?_eq_some_iff.1 hj).1
      rw [hlen] at hj'
      rw [addr_add, cell_of hb']
      rw [List.getElem?_take_of_lt (by omega), List.getElem?_drop] at hj
      simpa using hj
    · obtain ⟨j, hj⟩ := List.mem_iff_getElem?.1 hv
      have hj' := (List.getElem?_eq_some_iff.1 hj).1
      rw [hlen] at hj'
      rw [List.getElem?_take_of_lt (by omega), List.getElem?_drop] at hj
      exact hone _ _ (by omega) hj
  have hbel3 : Below w.heap.size w W3 := by rw [hW3]; exact hset _ _ hbel2.drew
  have hnew3 : W3.heap[w.heap.size]? = some (.cells (gr2 (pt2 (cs.take (i * 2) ++ Z) i u0 u1) cs n i).toArray 39 (0, 0)) := by rw [hW3]; exact setRow_heap _ _ _ _ _ _ hnew2
  clear hW3
  have hwn : ((n : Int) + 1 - (i : Int)) = ((n + 1 - i : Nat) : Int) := by omega
  have hq1 : (0 : Int) ≤ (i : Int) + 1 := by omega
  have hq2 : i ≤ n := by omega
  have hq3 : ¬ (G = i + 1) := by omega
  have hq4 : ¬ (G = i) := by omega
  have hq5 : (i : Int) ≤ (n : Int) + 1 := by omega
  have hq6 : ((i : Int) + 1).toNat = i + 1 := by omega
  have hq7 : (n : Int) < (n : Int) + 1 := by omega
  have hq8 : ¬ (n = i) := by omega
  clear hcell hlen hol hold hG hnl hpl hset
  go_enter Try.func97, Try.ntmps97
  go_wp2_with (first
    | (at_builtin; refine Lib.wpList_append_run _ rfl _ _ _ _ rfl _ _ rfl rfl _ _ (hrz _) ?_)
    | (at_builtin; refine wpl_copy _ rfl _ _ 26 26 rfl _ _ rfl rfl (hcpA _ _) ?_))
  go_region_law (refine step_copy rfl _ _ 26 26 rfl _ _ (by simp [Act.eval, Act.put]) (by simp [Act.eval, Act.put]) (hcpB _ _ _) ?_)
  go_wp2
  go_ret
  exact ⟨G, Z, hGn, hZl, rfl, hbel3, hnew3⟩
end
section
open Go.RowKit
attribute [local irreducible] FS FO IT HS

/-- r's cells are cs's, with a pair put in at the i-th pair. -/
def InsRow (cs : List Value) (n i : Nat) (u0 u1 : Value) (r : List Value) : Prop :=
  (∀ q, q < i * 2 → r[q]? = cs[q]?) ∧ r[i * 2]? = some u0 ∧ r[i * 2 + 1]? = some u1 ∧ ∀ q, i * 2 ≤ q → q < n * 2 → r[q + 2]? = cs[q]?

theorem ins_of_shift {cs : List Value} {n i : Nat} {u0 u1 : Value} (hi : i < n) (hcs : (n + 1) * 2 ≤ cs.length) : InsRow cs n i u0 u1 (pt2 (shf cs n i) i u0 u1) := by
  have hlen : ((cs.drop (i * 2)).take ((n - i) * 2)).length = (n - i) * 2 := by simp; omega
  have h1 : (cs.take ((i + 1) * 2)).length = (i + 1) * 2 := by simp; omega
  have hs1 : ∀ q, q < i * 2 → (shf cs n i)[q]? = cs[q]? := fun q hq => by
    unfold shf
    rw [List.getElem?_append_left (by rw [h1]; omega), List.getElem?_take_of_lt (by omega)]
  have hs2 : ∀ q, i * 2 ≤ q → q < n * 2 → (shf cs n i)[q + 2]? = cs[q]? := fun q hq hq2 => by
    unfold shf
    rw [List.getElem?_append_right (by rw [h1]; omega), List.getElem?_append_left (by rw [h1, hlen]; omega), h1, List.getElem?_take_of_lt (by omega), List.getElem?_drop]
    congr 1; omega
  have hsl : (shf cs n i).length = cs.length := by simp [shf]; omega
  have h3 : ((shf cs n i).take (i * 2)).length = i * 2 := by simp [hsl]; omega
  refine ⟨fun q hq => ?_, ?_, ?_, fun q hq hq2 => ?_⟩
  · unfold pt2
    rw [List.getElem?_append_left (by rw [h3]; omega), List.getElem?_take_of_lt hq, hs1 q hq]
  · unfold pt2
    rw [List.getElem?_append_right (by rw [h3]; omega), h3, Nat.sub_self]; rfl
  · unfold pt2
    rw [List.getElem?_append_right (by rw [h3]; omega), h3, show i * 2 + 1 - i * 2 = 1 by omega]; rfl
  · unfold pt2
    rw [List.getElem?_append_right (by rw [h3]; omega), h3, show q + 2 - i * 2 = (q - i * 2) + 2 by omega]
    show ((shf cs n i).drop (i * 2 + 2))[q - i * 2]? = _
    rw [List.getElem?_drop, show i * 2 + 2 + (q - i * 2) = q + 2 by omega, hs2 q hq hq2]

theorem ins_of_grow {cs Z : List Value} {n i : Nat} {u0 u1 : Value} (hi : i < n) (hcs : n * 2 ≤ cs.length)  : InsRow cs n i u0 u1 (gr2 (pt2 (cs.take (i * 2) ++ Z) i u0 u1) cs n i) := by
  have hlen : ((cs.drop (i * 2)).take ((n - i) * 2)).length = (n - i) * 2 := by simp; omega
  have hol : (cs.take (i * 2)).length = i * 2 := by simp; omega
  have h3 : ((cs.take (i * 2) ++ Z).take (i * 2)).length = i * 2 := by simp; omega
  have hp1 : ∀ q, q < i * 2 → (pt2 (cs.take (i * 2) ++ Z) i u0 u1)[q]? = cs[q]? := fun q hq => by
    unfold pt2
    rw [List.getElem?_append_left (by rw [h3]; omega), List.getElem?_take_of_lt hq, List.getElem?_append_left (by rw [hol]; omega), List.getElem?_take_of_lt hq]
  have hp2 : (pt2 (cs.take (i * 2) ++ Z) i u0 u1)[i * 2]? = some u0 := by
    unfold pt2
    rw [List.getElem?_append_right (by rw [h3]; omega), h3, Nat.sub_self]; rfl
  have hp3 : (pt2 (cs.take (i * 2) ++ Z) i u0 u1)[i * 2 + 1]? = some u1 := by
    unfold pt2
    rw [List.getElem?_append_right (by rw [h3]; omega), h3, show i * 2 + 1 - i * 2 = 1 by omega]; rfl
  have hpl : (i + 1) * 2 ≤ (pt2 (cs.take (i * 2) ++ Z) i u0 u1).length := by
    have := (List.getElem?_eq_some_iff.1 hp3).1
    omega
  have h4 : ((pt2 (cs.take (i * 2) ++ Z) i u0 u1).take ((i + 1) * 2)).length = (i + 1) * 2 := by rw [List.length_take]; omega
  refine ⟨fun q hq => ?_, ?_, ?_, fun q hq hq2 => ?_⟩
  · unfold gr2
    rw [List.getElem?_append_left (by rw [h4]; omega), List.getElem?_take_of_lt (by omega), hp1 q hq]
  · unfold gr2
    rw [List.getElem?_append_left (by rw [h4]; omega), List.getElem?_take_of_lt (by omega), hp2]
  · unfold gr2
    rw [List.getElem?_append_left (by rw [h4]; omega), List.getElem?_take_of_lt (by omega), hp3]
  · unfold gr2
    rw [List.getElem?_append_right (by rw [h4]; omega), List.getElem?_append_left (by rw [h4, hlen]; omega), h4, List.getElem?_take_of_lt (by omega), List.getElem?_drop]
    congr 1; omega

/-- The items with one more. -/
def inI (l : List (Int × Int)) (i : Nat) (x : Int × Int) : List (Int × Int) := l.take i ++ x :: l.drop i
theorem inI_len (l : List (Int × Int)) {i : Nat} (x : Int × Int) (h : i ≤ l.length) : (inI l i x).length = l.length + 1 := by simp [inI]; omega

theorem row_ins {w : World} {A : Nat → Prop} {cs r : List Value} {l : List (Int × Int)} {i : Nat} {x : Int × Int} (hi : i < l.length) (hrow : Row w A 2 (its l) cs) (h : InsRow cs l.length i (.int .i64 x.1) (.int .i64 x.2) r) (hr : (l.length + 1) * 2 ≤ r.length) : Row w A 2 (its (inI l i x)) r := by
  obtain ⟨h1, h2, h3, h4⟩ := h
  refine ⟨by rw [its_len, inI_len l x (by omega)]; exact hr, fun p y hy => ?_⟩
  have hit : (l.take i).length = i := by simp; omega
  obtain ⟨z, hz, rfl⟩ := its_get hy
  refine ⟨rfl, fun j c hc => ?_⟩
  have hj : j < 2 := (List.getElem?_eq_some_iff.1 hc).1
  rcases Nat.lt_trichotomy p i with hp | hp | hp
  · have hz' : (its l)[p]? = some [.int .i64 z.1, .int .i64 z.2] := by
      unfold inI at hz
      rw [List.getElem?_append_left (by omega), List.getElem?_take_of_lt hp] at hz
      simp [its, hz]
    obtain ⟨v, hv1, hv2⟩ := (hrow.2 p _ hz').2 j c hc
    exact ⟨v, by rw [h1 _ (by omega)]; exact hv1, hv2⟩
  · subst hp
    unfold inI at hz
    rw [List.getElem?_append_right (by omega), hit, Nat.sub_self] at hz
    simp at hz
    subst hz
    match j, hc with
    | 0, hc => simp at hc; subst hc; exact ⟨_, h2, .int _ _ _⟩
    | 1, hc => simp at hc; subst hc; exact ⟨_, h3, .int _ _ _⟩
    | j + 2, hc => omega
  · have hz' : (its l)[p - 1]? = some [.int .i64 z.1, .int .i64 z.2] := by
      unfold inI at hz
      rw [List.getElem?_append_right (by omega), hit, show p - i = (p - 1 - i) + 1 by omega, List.getElem?_cons_succ, List.getElem?_drop, show i + (p - 1 - i) = p - 1 by omega] at hz
      simp [its, hz]
    have hpl := (List.getElem?_eq_some_iff.1 hz').1
    rw [its_len] at hpl
    obtain ⟨v, hv1, hv2⟩ := (hrow.2 (p - 1) _ hz').2 j c hc
    refine ⟨v, ?_, hv2⟩
    have := h4 ((p - 1) * 2 + j) (by omega) (by omega)
    rw [show p * 2 + j = (p - 1) * 2 + j + 2 by omega, this]; exact hv1

noncomputable def ir_slices_Insert_api_Item_api_Item : IR :=
(.seq (.reg (⟨(some 6), .mv (.c (.nils)), none⟩ :: [])) (.seq (.reg (⟨(some 10), .mv (.t 0), none⟩ ::⟨(some 11), .mv (.t 1), none⟩ ::⟨(some 12), .sl 2 (.t 10) (some (.t 11)) none none, none⟩ :: [])) (.seq (.reg (⟨(some 13), .mv (.t 2), none⟩ ::⟨(some 14), .ln (.t 13), none⟩ ::⟨(some 7), .mv (.t 14), none⟩ :: [])) (.seq (.seq (.reg (⟨(some 15), .mv (.t 7), none⟩ ::⟨(some 16), .bin .eql (.t 15) (.c (.int .i64 0)), none⟩ :: [])) (.cond (.t 16) (.seq (.reg (⟨(some 17), .mv (.t 0), none⟩ ::⟨(some 6), .mv (.t 17), none⟩ :: [])) .ret) .skip)) (.seq (.reg (⟨(some 18), .mv (.t 0), none⟩ ::⟨(some 19), .ln (.t 18), none⟩ ::⟨(some 8), .mv (.t 19), none⟩ :: [])) (.seq (.seq (.reg (⟨(some 20), .mv (.t 1), none⟩ ::⟨(some 21), .mv (.t 8), none⟩ ::⟨(some 22), .bin .eql (.t 20) (.t 21), none⟩ :: [])) (.cond (.t 22) (.seq (.reg (⟨(some 23), .mv (.t 0), none⟩ ::⟨(some 24), .mv (.t 2), none⟩ ::⟨(some 25), .ap 2 16 (.t 23) (.t 24), none⟩ ::⟨(some 6), .mv (.t 25), none⟩ :: [])) .ret) .skip)) (.seq (.seq (.reg (⟨(some 26), .mv (.t 8), none⟩ ::⟨(some 27), .mv (.t 7), none⟩ ::⟨(some 28), .bin .add (.t 26) (.t 27), none⟩ ::⟨(some 29), .mv (.t 0), none⟩ ::⟨(some 30), .oth (opAt Try.f97 25), none⟩ ::⟨(some 31), .bin .gtr (.t 28) (.t 30), none⟩ :: [])) (.cond (.t 31) (.seq (.reg (⟨(some 32), .mv (.t 0), none⟩ ::⟨(some 33), .mv (.t 1), none⟩ ::⟨(some 34), .sl 2 (.t 32) none (some (.t 33)) none, none⟩ ::⟨(some 35), .mv (.t 8), none⟩ ::⟨(some 36), .mv (.t 7), none⟩ ::⟨(some 37), .bin .add (.t 35) (.t 36), none⟩ ::⟨(some 38), .mv (.t 1), none⟩ ::⟨(some 39), .bin .sub (.t 37) (.t 38), none⟩ ::⟨(some 40), .oth (opAt Try.f97 35), none⟩ ::⟨(some 9), .mv (.t 40), none⟩ :: [])) (.seq (.reg (⟨(some 41), .mv (.t 9), none⟩ ::⟨(some 42), .mv (.t 1), none⟩ ::⟨(some 43), .sl 2 (.t 41) (some (.t 42)) none none, none⟩ ::⟨(some 44), .mv (.t 2), none⟩ ::⟨(some 45), .cp 2 (.t 43) (.t 44), none⟩ :: [])) (.seq (.draw (⟨(some 46), .mv (.t 9), none⟩ ::⟨(some 47), .mv (.t 1), none⟩ ::⟨(some 48), .mv (.t 7), none⟩ ::⟨(some 49), .bin .add (.t 47) (.t 48), none⟩ ::⟨(some 50), .sl 2 (.t 46) (some (.t 49)) none none, none⟩ ::⟨(some 51), .mv (.t 0), none⟩ ::⟨(some 52), .mv (.t 1), none⟩ ::⟨(some 53), .sl 2 (.t 51) (some (.t 52)) none none, none⟩ :: []) (⟨(some 54), .cp 2 (.t 50) (.t 53), none⟩ :: [])) (.seq (.reg (⟨(some 55), .mv (.t 9), none⟩ ::⟨(some 6), .mv (.t 55), none⟩ :: [])) .ret)))) .skip)) (.seq (.reg (⟨(some 56), .mv (.t 0), none⟩ ::⟨(some 57), .mv (.t 8), none⟩ ::⟨(some 58), .mv (.t 7), none⟩ ::⟨(some 59), .bin .add (.t 57) (.t 58), none⟩ ::⟨(some 60), .sl 2 (.t 56) none (some (.t 59)) none, none⟩ ::⟨(some 0), .mv (.t 60), none⟩ :: [])) (.seq (.seq (.reg (⟨(some 61), .mv (.t 2), none⟩ ::⟨(some 62), .mv (.t 0), none⟩ ::⟨(some 63), .mv (.t 1), none⟩ ::⟨(some 64), .mv (.t 7), none⟩ ::⟨(some 65), .bin .add (.t 63) (.t 64), none⟩ ::⟨(some 66), .sl 2 (.t 62) (some (.t 65)) none none, none⟩ ::⟨(some 67), .call (.c (.fn 126 [])) [(.t 61), (.t 66)], none⟩ ::⟨(some 68), .un .not (.t 67), none⟩ :: [])) (.cond (.t 68) (.seq (.draw (⟨(some 69), .mv (.t 0), none⟩ ::⟨(some 70), .mv (.t 1), none⟩ ::⟨(some 71), .mv (.t 7), none⟩ ::⟨(some 72), .bin .add (.t 70) (.t 71), none⟩ ::⟨(some 73), .sl 2 (.t 69) (some (.t 72)) none none, none⟩ ::⟨(some 74), .mv (.t 0), none⟩ ::⟨(some 75), .mv (.t 1), none⟩ ::⟨(some 76), .sl 2 (.t 74) (some (.t 75)) none none, none⟩ :: []) (⟨(some 77), .cp 2 (.t 73) (.t 76), none⟩ :: [])) (.seq (.reg (⟨(some 78), .mv (.t 0), none⟩ ::⟨(some 79), .mv (.t 1), none⟩ ::⟨(some 80), .sl 2 (.t 78) (some (.t 79)) none none, none⟩ ::⟨(some 81), .mv (.t 2), none⟩ ::⟨(some 82), .cp 2 (.t 80) (.t 81), none⟩ :: [])) (.seq (.reg (⟨(some 83), .mv (.t 0), none⟩ ::⟨(some 6), .mv (.t 83), none⟩ :: [])) .ret))) .skip)) (.seq (.reg (⟨(some 84), .mv (.t 0), none⟩ ::⟨(some 85), .mv (.t 8), none⟩ ::⟨(some 86), .sl 2 (.t 84) (some (.t 85)) none none, none⟩ ::⟨(some 87), .mv (.t 2), none⟩ ::⟨(some 88), .cp 2 (.t 86) (.t 87), none⟩ :: [])) (.seq (.reg (⟨(some 89), .mv (.t 0), none⟩ ::⟨(some 90), .mv (.t 1), none⟩ ::⟨(some 91), .sl 2 (.t 89) (some (.t 90)) none none, none⟩ ::⟨(some 92), .mv (.t 7), none⟩ ::⟨(some 93), .call (.c (.fn 127 [])) [(.t 91), (.t 92)], none⟩ :: [])) (.seq (.reg (⟨(some 94), .mv (.t 0), none⟩ ::⟨(some 6), .mv (.t 94), none⟩ :: [])) .ret))))))))))))
theorem cd_slices_Insert_api_Item_api_Item : Code1 Try.prog 97 95 ir_slices_Insert_api_Item_api_Item [.t 6] := ⟨Try.call97, _, _, Try.func97, rfl, by kernel_rfl, by kernel_rfl, by kernel_rfl, by kernel_rfl⟩

theorem hs_InsEnd (l : List (Int × Int)) (x : Int × Int) (hl : l.length ≤ 1000000000) : HS Try.prog 97 [.osl 0 2 0 l.length, .int .i64 (l.length : Int), .slc 2 [[.int .i64 x.1, .int .i64 x.2]]] [.arr 2 (its l)] (.osl 0 2 0 (l.length + 1)) [.arr 2 (its (inI l l.length x))] [0] := by
  refine hs_of_cvc mixed cd_slices_Insert_api_Item_api_Item (by simp) ?_
  have hlen := its_len l
  repeat' (conv => whnf); first
    | ((exact absurd rfl h))
    | ((refine And.intro (Or.inr (List.mem_singleton.2 rfl)) ?_))
    | ((refine Br.beq (by rfl) ?_))
    | ((refine Br.bne (by rfl) ?_))
    | ((refine And.intro (Or.inl (Nat.zero_le _)) ?_))
    | ((refine And.intro (by intro y hy; simp at hy; subst hy; rfl) ?_))
    | (refine Br.tt ?_)
    | (refine Br.ff ?_)
    | (refine Br.dec (fun h => ?_) (fun h => ?_)) <;> try (exfalso; omega)
    | (refine Br.neg ?_)
    | (refine Br.mk (fun h => ?_) (fun h => ?_))
    | (refine And.intro rfl ?_)
    | (refine And.intro (by omega) ?_)
    | (refine ⟨_, Or.inl ⟨⟨by omega, by omega⟩, rfl⟩, ?_⟩)
    | (refine And.intro (by simp only [lens_all]; first | done | omega) ?_)
    | (refine And.intro (Nat.le_refl _) ?_)
    | fail
  refine ⟨?_, trivial⟩
  show Blk.arr 2 _ = Blk.arr 2 _
  refine congrArg (Blk.arr 2) ?_
  unfold inI
  rw [List.take_length, List.drop_length, its_append]
  rfl

set_option maxHeartbeats 1000000 in
theorem hs_Insert (l : List (Int × Int)) (i : Nat) (x : Int × Int) (hi : i ≤ l.length) (hl : l.length ≤ 1000000000) : HS Try.prog 97 [.osl 0 2 0 l.length, .int .i64 (i : Int), .slc 2 [[.int .i64 x.1, .int .i64 x.2]]] [.arr 2 (its l)] (.osl 0 2 0 (l.length + 1)) [.arr 2 (its (inI l i x))] [0] := by
  rcases Nat.lt_or_ge i l.length with hlt | hge
  rotate_left
  · obtain rfl : i = l.length := by omega
    exact hs_InsEnd l x hl
  unfold HS
  refine ⟨Try.call97, fun w A β vs hfin hW hr => ?_⟩
  -- the arguments
  obtain ⟨v0, v1, v2, rfl⟩ : ∃ v0 v1 v2, vs = [v0, v1, v2] := by
    have h := hr.1
    match vs, h with
    | [a, b, c], _ => exact ⟨a, b, c, rfl⟩
  have r0 := hr.2 0 _ v0 rfl rfl
  have r1 := hr.2 1 _ v1 rfl rfl
  have r2 := hr.2 2 _ v2 rfl rfl
  cases r1
  obtain ⟨vb, voff, vcap, f, rfl, hm, hf⟩ : ∃ vb voff vcap f, v2 = .slice (some ⟨vb, voff, none⟩) 1 vcap ∧ Mem w A vb voff 2 [[.int .i64 x.1, .int .i64 x.2]] f ∧ ∀ (i : Nat) (y : List SV) (j : Nat) (c : SV), [[SV.int .i64 x.1, .int .i64 x.2]][i]? = some y → y[j]? = some c → Rep w A [] c (f (voff + i * 2 + j)) := by
    cases r2 with
    | slc _ _ _ b off cap f hm hc h => exact ⟨b, off, cap, f, rfl, hm, h⟩
  obtain ⟨⟨vcs, Tv, fr, hvb, hvc⟩, haw, _⟩ := hm
  have e0 : vcs[voff]? = some (.int .i64 x.1) := by
    have h1 := hvc 0 _ 0 rfl (by omega)
    have h2 := hf 0 _ 0 _ rfl rfl
    simp only [Nat.zero_mul, Nat.add_zero] at h1 h2
    revert h1 h2
    generalize f _ = u
    intro h1 h2
    cases h2
    exact h1
  have e1 : vcs[voff + 1]? = some (.int .i64 x.2) := by
    have h1 := hvc 0 _ 1 rfl (by omega)
    have h2 := hf 0 _ 1 _ rfl rfl
    simp only [Nat.zero_mul, Nat.add_zero] at h1 h2
    revert h1 h2
    generalize f _ = u
    intro h1 h2
    cases h2
    exact h1
  obtain ⟨b, cap, rfl, hk, hc, cs2, T, fr2, hb2, hsz⟩ : ∃ b cap, v0 = .slice (some ⟨b, 0, none⟩) l.length cap ∧ β[0]? = some (some b) ∧ l.length ≤ cap ∧ ∃ (cs : Array Value) (T : TypeId) (fr : Nat × Nat), w.heap[b]? = some (.cells cs T fr) ∧ cap * 2 ≤ cs.size := by
    generalize hn : l.length = n at r0
    cases r0 with
    | oslZ => omega
    | osl _ _ _ _ _ b cap hk hc hs =>
      obtain ⟨cs, T, fr, h1, h2⟩ := hs
      exact ⟨b, cap, by simp, hk, hc, cs, T, fr, h1, by omega⟩
  obtain ⟨cs, T0, hb, hcl, hcs⟩ := hW.blk 0 (some b) _ hk rfl
  rw [hb] at hb2
  cases hb2
  have hsz : cap * 2 ≤ cs.length := by simpa using hsz
  have hrow : Row w A 2 (its l) cs := ⟨hcl, hcs⟩
  have hAb : A b := (hW.own 0 b hk).1
  have hvne : vb ≠ b := fun e => haw (e ▸ hAb)
  have hone : ∀ j v, j < l.length * 2 → cs[j]? = some v → v.oneCell' = true := fun j v hj hv => by
    obtain ⟨y, hy⟩ : ∃ y, l[j / 2]? = some y := ⟨_, List.getElem?_eq_getElem (by omega)⟩
    have hy' : (its l)[j / 2]? = some [.int .i64 y.1, .int .i64 y.2] := by simp [its, hy]
    have hj2 : j % 2 < 2 := Nat.mod_lt _ (by omega)
    obtain ⟨c, hc⟩ : ∃ c, [SV.int .i64 y.1, .int .i64 y.2][j % 2]? = some c := ⟨_, List.getElem?_eq_getElem hj2⟩
    obtain ⟨u, hu1, hu2⟩ := (hcs _ _ hy').2 (j % 2) c hc
    rw [show j / 2 * 2 + j % 2 = j by omega, hv] at hu1
    cases hu1
    refine scalar_one hu2 ?_
    have hm := List.mem_of_getElem? hc
    simp only [List.mem_cons, List.not_mem_nil, or_false] at hm
    rcases hm with rfl | rfl <;> rfl
  have hcur : Cur w A β 1 [0] w A β [.arr 2 (its l)] := ⟨hW, hfin, Frm.refl _ _, fun _ _ => Iff.rfl, fun _ b h _ => List.mem_of_getElem? h, fun _ _ _ => rfl, Nat.le_refl _⟩
  have fin : ∀ (w' : World) (A' : Nat → Prop) (β' : List (Option Nat)) (v : Value), Cur w A β 1 [0] w' A' β' [.arr 2 (its (inI l i x))] → Rep w' A' β' (.osl 0 2 0 (l.length + 1)) v →
      ∃ (v' : Value) (A' : Nat → Prop) (β' : List (Option Nat)), Ending.returned v = .returned v' ∧ Frm β w w' ∧ (∀ b, A' b → b < w'.heap.size) ∧ WRel w' A' β' [.arr 2 (its (inI l i x))] ∧ (∀ b, b < w.heap.size → (A' b ↔ A b)) ∧
        (∀ (k b : Nat), β'[k]? = some (some b) → b < w.heap.size → some b ∈ β) ∧ (∀ k, k < β.length → k ∉ [0] → β'[k]? = β[k]?) ∧ β.length ≤ β'.length ∧ Rep w' A' β' (.osl 0 2 0 (l.length + 1)) v' := fun w' A' β' v hc hr => by
    refine ⟨v, A', β', rfl, hc.frm, hc.fin, hc.rel, hc.agree, hc.fresh, fun k hk hn => hc.same k hk fun h => ?_, hc.more, hr⟩
    have := hW.len
    rcases h with h | h
    · simp at this; omega
    · exact hn h
  rcases Nat.lt_or_ge l.length cap with hroom | hroom
  · -- in place
    refine (ins_shift w b l.length cap i vb voff vcap cs T _ _ vcs Tv fr hlt hl hroom hb hsz hone hvne hvb e0 e1 rfl rfl).mono ?_
    rintro e w' ⟨rfl, rfl⟩
    have hd : Cur w A β 1 [0] w.drew A β [.arr 2 (its l)] := by
      have hB : Below w.heap.size w w.drew := (Below.refl _ _).drew
      refine ⟨hW.step (Stp.below hB) fun _ _ _ => rfl, hfin, Frm.below hB, fun _ _ => Iff.rfl, fun _ b h _ => List.mem_of_getElem? h, fun _ _ _ => rfl, Nat.le_refl _⟩
    have hlen : ((cs.drop (i * 2)).take ((l.length - i) * 2)).length = (l.length - i) * 2 := by simp; omega
    have hsl : (shf cs l.length i).length = cs.length := by simp [shf]; omega
    have hpl : (pt2 (shf cs l.length i) i (.int .i64 x.1) (.int .i64 x.2)).length = (shf cs l.length i).length := by simp [pt2]; omega
    have hb1 : w.drew.heap[b]? = some (.cells cs.toArray T (0, 0)) := hb
    have c1 := hd.set (blk := .dead) hk hb1 hsl trivial
    have hb2 := setRow_heap w.drew b _ (shf cs l.length i).toArray _ _ hb1
    have hro : Row (w.drew.setRow b (shf cs l.length i).toArray |>.setRow b (pt2 (shf cs l.length i) i (.int .i64 x.1) (.int .i64 x.2)).toArray) A 2 (its (inI l i x)) (pt2 (shf cs l.length i) i (.int .i64 x.1) (.int .i64 x.2)) := by
      have hro := row_ins hlt hrow (ins_of_shift hlt (by omega)) (by rw [hpl, hsl]; omega)
      have s1 := (setRow_frm (β := β) hb1 hsl 0 hk).1.stp (A := A) fun k b h => (hW.own k b h).1
      have s2 := (setRow_frm (β := β) hb2 hpl 0 hk).1.stp (A := A) fun k b h => (hW.own k b h).1
      exact ((hro.mono (Stp.below (Below.refl _ _).drew) fun _ _ h => h).mono s1 fun _ _ h => h).mono s2 fun _ _ h => h
    have c2 := c1.set (blk := .arr 2 (its (inI l i x))) hk hb2 hpl ⟨_, T, setRow_heap _ b _ _ _ _ hb2, hro.1, hro.2⟩
    refine fin _ A β _ c2 ?_
    have := Rep.osl (w := (w.drew.setRow b (shf cs l.length i).toArray).setRow b (pt2 (shf cs l.length i) i (.int .i64 x.1) (.int .i64 x.2)).toArray) (A := A) β 0 2 0 (l.length + 1) b cap hk hroom ⟨_, T, _, setRow_heap _ b _ _ _ _ hb2, by simp [hpl, hsl]; omega⟩
    simpa using this
  · -- a new row
    obtain rfl : cap = l.length := by omega
    refine (ins_grow w b l.length i vb voff vcap cs T _ _ vcs Tv fr hlt hl hb hsz hone hvb e0 e1 rfl rfl).mono ?_
    rintro e w' ⟨G, Z, hG, hZ, rfl, hbel, hnew⟩
    have hcl' := heap_lt hnew
    have hgl : (gr2 (pt2 (cs.take (i * 2) ++ Z) i (.int .i64 x.1) (.int .i64 x.2)) cs l.length i).length = G * 2 := by
      simp [gr2, pt2, hZ]; omega
    have hro := row_ins hlt hrow (ins_of_grow (Z := Z) hlt hsz) (by rw [hgl]; omega)
    have hro' := hro.mono (Stp.below hbel) (plus_lt (Nat.le_refl _))
    have hkl : 0 < β.length := by rw [hW.len]; simp
    have c1 := hcur.move (blk := .arr 2 (its (inI l i x))) hkl (.inr (by simp)) hbel (Nat.le_refl _) hcl' ⟨_, 39, hnew, hro'.1, hro'.2⟩
    refine fin _ _ _ _ c1 ?_
    have := Rep.osl (w := w') (A := plus A w.heap.size) (β.set 0 (some w.heap.size)) 0 2 0 (l.length + 1) w.heap.size G (by rw [List.getElem?_set_self hkl]) hG ⟨_, _, _, hnew, by simp [hgl]⟩
    simpa using this
end
section
open Go.RowKit
attribute [local irreducible] FS FO IT HS

/-- A vector whose items are one's own, lent. -/
theorem lend_vec {P : Program} {g : FuncId} {H : List Blk} {K : SV → Prop} {k wd n : Nat} {N : SV} {xs : List (List SV)} {rest : List SV} {res : SV} (hk : H[k]? = some (.arr wd xs)) (hn : n = xs.length) (hN : N.pure = true) (hp : SV.pure.pureL rest = true) (h : FS P g (.agg [N, .slc wd xs] :: rest) res) (hl : SV.loose res = true) (hK : K res) : lendK P g (.agg [N, .osl k wd 0 n] :: rest) H K := by
  have h1 : frzK 3 H (.osl k wd 0 n) fun y => frzs (frzK 4 H) rest fun ys => ∃ res, FS P g (.agg [N, y] :: ys) res ∧ SV.loose res = true ∧ K res := by
    show match H[k]? with
      | some (.arr wd' xs) => wd' = wd ∧ 0 + n ≤ xs.length ∧ frzs (frzK 4 H) rest fun ys => ∃ res, FS P g (.agg [N, .slc wd ((xs.drop 0).take n)] :: ys) res ∧ SV.loose res = true ∧ K res
      | _ => False
    rw [hk]
    refine ⟨rfl, by omega, frzs_pure (frz_pure 4) rest _ hp ⟨res, ?_, hl, hK⟩⟩
    rw [List.drop_zero, hn, List.take_length]
    exact h
  show frzK 3 H N fun z => frzK 3 H (.osl k wd 0 n) fun y => frzs (frzK 4 H) rest fun ys => ∃ res, FS P g (.agg [z, y] :: ys) res ∧ SV.loose res = true ∧ K res
  exact frz_pure 3 N _ hN h1

theorem posI_le (l : List (Int × Int)) (a : Int) : posI l a ≤ l.length := List.findIdx_le_length
theorem posI_cons (x : Int × Int) (l : List (Int × Int)) (a : Int) : posI (x :: l) a = if a ≤ x.1 then 0 else posI l a + 1 := by
  unfold posI
  rw [List.findIdx_cons]
  by_cases h : a ≤ x.1 <;> simp [h]
theorem hasI'_cons (x : Int × Int) (l : List (Int × Int)) (a : Int) : hasI' (x :: l) a = (decide (x.1 = a) || hasI' l a) := rfl
theorem rest_ne {p : Int} {l : List (Int × Int)} (h : ∀ x ∈ l, p < x.1) : l.filter (fun y => decide (y.1 ≠ p)) = l := List.filter_eq_self.2 fun x hx => by
  have := h x hx
  exact decide_eq_true (by omega)
theorem putI_ins {p v : Int} : ∀ {l : List (Int × Int)}, Up l → hasI' l p = false → putI p v l = inI l (posI l p) (p, v)
  | [], _, _ => rfl
  | x :: l, hu, h => by
    rw [hasI'_cons, Bool.or_eq_false_iff, decide_eq_false_iff_not] at h
    rw [posI_cons]
    by_cases hx : p ≤ x.1
    · have hh := hu.head
      rw [if_pos hx, putI, if_pos hx, List.filter_cons, if_pos (decide_eq_true h.1), rest_ne (p := p) fun y hy => by have := hh y hy; omega]
      rfl
    · simp [putI, hx, inI, putI_ins hu.tail h.2]
theorem putI_set {p v : Int} : ∀ {l : List (Int × Int)}, Up l → hasI' l p = true → putI p v l = l.set (posI l p) (p, v)
  | [], _, h => by simp [hasI'] at h
  | x :: l, hu, h => by
    rw [hasI'_cons] at h
    rw [posI_cons]
    have hh := hu.head
    by_cases hx : p ≤ x.1
    · have hxp : x.1 = p := by
        rcases (Bool.or_eq_true_iff).1 h with h | h
        · exact of_decide_eq_true h
        · obtain ⟨y, hy, he⟩ := List.any_eq_true.1 h
          have := hh y hy
          have := of_decide_eq_true he
          omega
      rw [if_pos hx, putI, if_pos hx, List.filter_cons, if_neg (by simp [hxp]), rest_ne (p := p) fun y hy => by have := hh y hy; omega]
      rfl
    · have h' : hasI' l p = true := by
        rcases (Bool.or_eq_true_iff).1 h with h | h
        · have := of_decide_eq_true h; omega
        · exact h
      simp [putI, hx, putI_set hu.tail h']

theorem its_one {l : List (Int × Int)} {q : Nat} {x : Int × Int} (h : l[q]? = some x) : (its l)[q]? = some [.int .i64 x.1, .int .i64 x.2] := by simp [its, h]
theorem inI_at (l : List (Int × Int)) {i : Nat} (x : Int × Int) (h : i ≤ l.length) : (inI l i x)[i]? = some x := by
  unfold inI
  rw [List.getElem?_append_right (by simp; omega), show i - (l.take i).length = 0 by simp; omega]; rfl
theorem inI_set (l : List (Int × Int)) {i : Nat} (x y : Int × Int) (h : i ≤ l.length) : (inI l i x).set i y = inI l i y := by
  unfold inI
  rw [List.set_append_right _ _ (by simp; omega), show i - (l.take i).length = 0 by simp; omega]; rfl

theorem frz_len {k : Nat} {m : List (Int × Int)} (h : k = m.length) : List.take k (List.drop 0 (its m)) = its m := by
  rw [List.drop_zero, List.take_of_length_le (by rw [its_len]; omega)]

def ir_spvec_Put : IR :=
(.seq (.reg (⟨(some 3), .bx (.t 0), none⟩ ::⟨(some 6), .al [.int .i64 0, .nils], none⟩ :: [])) (.seq (.reg (⟨(some 10), .ld 2 true (.t 3), none⟩ ::⟨(some 11), .call (.c (.fn 89 [])) [(.t 10)], none⟩ ::⟨none, .st 2 (.t 3) (.t 11), none⟩ :: [])) (.seq (.draw (⟨(some 12), .fa 0 (.t 3), none⟩ ::⟨(some 13), .ld 1 false (.t 12), none⟩ ::⟨(some 14), .fa 1 (.t 3), none⟩ ::⟨(some 15), .ld 1 false (.t 14), none⟩ ::⟨(some 16), .call (.c (.fn 96 [])) [(.t 15)], none⟩ ::⟨(some 17), .bld [.int .i64 0, .nils] [(0, 1, (.t 13)), (1, 1, (.t 16))], none⟩ ::⟨(some 7), .al [.int .i64 0, .nils], none⟩ :: []) (⟨none, .st 2 (.t 7) (.t 17), none⟩ :: [])) (.seq (.seq (.reg (⟨(some 18), .mv (.t 1), none⟩ ::⟨(some 19), .fa 0 (.t 3), none⟩ ::⟨(some 20), .ld 1 false (.t 19), none⟩ ::⟨(some 21), .bin .sub (.t 20) (.c (.int .i64 1)), none⟩ ::⟨(some 22), .call (.c (.fn 94 [])) [(.t 18), (.t 21)], none⟩ ::⟨(some 23), .un .not (.t 22), none⟩ :: [])) (.cond (.t 23) (.seq (.reg (⟨(some 24), .ld 2 true (.t 7), none⟩ ::⟨none, .st 2 (.t 6) (.t 24), none⟩ :: [])) .ret) .skip)) (.seq (.reg (⟨(some 26), .ld 2 true (.t 7), none⟩ ::⟨(some 27), .mv (.t 1), none⟩ ::⟨(some 28), .call (.c (.fn 90 [])) [(.t 26), (.t 27)], none⟩ ::⟨(some 25), .mv (.t 28), none⟩ ::⟨(some 29), .ex 0 (.t 25), none⟩ ::⟨(some 30), .ex 1 (.t 25), none⟩ ::⟨(some 8), .mv (.t 29), none⟩ ::⟨(some 9), .mv (.t 30), none⟩ :: [])) (.seq (.seq (.reg (⟨(some 31), .mv (.t 9), none⟩ ::⟨(some 32), .un .not (.t 31), none⟩ :: [])) (.cond (.t 32) (.reg (⟨(some 33), .fa 1 (.t 7), none⟩ ::⟨(some 34), .ld 1 false (.t 33), none⟩ ::⟨(some 35), .mv (.t 8), none⟩ ::⟨(some 36), .mv (.t 1), none⟩ ::⟨(some 37), .bld [.int .i64 0, .int .i64 0] [(0, 1, (.t 36))], none⟩ ::⟨(some 38), .bsl 1 2 [.int .i64 0, .int .i64 0] [(0, (.t 37))], none⟩ ::⟨(some 39), .call (.c (.fn 97 [])) [(.t 34), (.t 35), (.t 38)], none⟩ ::⟨(some 40), .fa 1 (.t 7), none⟩ ::⟨none, .st 1 (.t 40) (.t 39), none⟩ :: [])) .skip)) (.seq (.reg (⟨(some 41), .fa 1 (.t 7), none⟩ ::⟨(some 42), .ld 1 false (.t 41), none⟩ ::⟨(some 43), .mv (.t 8), none⟩ ::⟨(some 44), .mv (.t 2), none⟩ ::⟨(some 45), .ia 2 (.t 42) (.t 43), none⟩ ::⟨(some 46), .fa 1 (.t 45), none⟩ ::⟨none, .st 1 (.t 46) (.t 44), none⟩ :: [])) (.seq (.reg (⟨(some 47), .ld 2 true (.t 7), none⟩ ::⟨none, .st 2 (.t 6) (.t 47), none⟩ :: [])) .ret))))))))
theorem cd_spvec_Put : Code1 Try.prog 47 48 ir_spvec_Put [.c 2 true 6] := ⟨Try.call47, _, _, Try.func47, rfl, by kernel_rfl, by kernel_rfl, by kernel_rfl, by kernel_rfl⟩

set_option maxHeartbeats 2000000 in
theorem fs_vPut (n : Int) (l : List (Int × Int)) (p v : Int) (hl : l.length ≤ 400000000) : FS Try.prog 47 [VC n l, .int .i64 p, .int .i64 v] (VC (sn n l) (putR (sn n l) (sl n l) p v)) := by
  refine fs_of_cvc mixed cd_spvec_Put (by simp) ?_
  have c0 := fs_vsure n l (by omega)
  have s1 := sl_len n l
  have hok := okV n l
  generalize sn n l = N at *
  generalize sl n l = a at *
  have hal := its_len a
  have h0 := hok.n0
  have h1 := hok.n1
  have c1 := fo_vClone a (by omega)
  have c2 := fs_vwithin p (N - 1)
  have c3 := fs_find N a p (by omega) hok.up
  have hpl := posI_le a p
  have hout : ¬ (0 ≤ p ∧ p < N) → VC N a = VC N (putR N a p v) := fun h => by rw [putR_out h hok.lo]
  by_cases hin : 0 ≤ p ∧ p < N
  · obtain ⟨hi1, hi2⟩ := hin
    rw [decide_eq_true hi1, decide_eq_true (show p ≤ N - 1 by omega)] at c2
    cases hh : hasI' a p with
    | true =>
      rw [hh] at c3
      obtain ⟨q1, q2⟩ := posI_at hok.up hh
      rw [putR_in ⟨hi1, hi2⟩, putI_set hok.up hh]
      obtain ⟨y, hy⟩ : ∃ y, a[posI a p]? = some y := ⟨_, List.getElem?_eq_getElem q1⟩
      have hy1 := (q2 y hy).1
      have hq := its_one (q := 0 + ((posI a p : Nat) : Int).toNat) (by rw [show 0 + ((posI a p : Nat) : Int).toNat = posI a p by omega]; exact hy)
      generalize posI a p = i at *
      repeat' (conv => whnf); first
        | ((refine Or.inl ⟨by rfl, _, c0, ?_⟩))
        | ((refine Or.inr (Or.inl ⟨by rfl, _, _, c1, ?_⟩)))
        | ((refine Or.inl ⟨by rfl, _, c2, ?_⟩))
        | ((refine Or.inr (Or.inr (Or.inl (lend_vec rfl hal.symm rfl rfl c3 rfl ?_)))))
        | ((refine ⟨_, hq, ?_⟩))
        | ((refine fun x hx => ?_); (obtain ⟨y, hy, rfl⟩ := its_get hx; clear hx))
        | ((refine Br.beq (by rfl) ?_))
        | ((refine Br.bne (by rfl) ?_))
        | ((refine And.intro (Or.inl (Nat.zero_le _)) ?_))
        | (refine Br.tt ?_)
        | (refine Br.ff ?_)
        | (refine Br.dec (fun h => ?_) (fun h => ?_)) <;> try (exfalso; omega)
        | (refine Br.neg ?_)
        | (refine Br.mk (fun h => ?_) (fun h => ?_))
        | (refine And.intro rfl ?_)
        | (refine And.intro (by omega) ?_)
        | (refine ⟨_, Or.inl ⟨⟨by omega, by omega⟩, rfl⟩, ?_⟩)
        | (refine And.intro (by simp only [lens_all, its_len]; first | done | omega) ?_)
        | (refine And.intro (Nat.le_refl _) ?_)
        | fail
      conv => whnf
      show SV.agg [.int .i64 N, .slc 2 (List.take a.length (List.drop 0 ((its a).set (0 + (i : Int).toNat) [.int .i64 y.1, .int .i64 v])))] = VC N (a.set i (p, v))
      rw [show 0 + (i : Int).toNat = i by omega, its_set, hy1, frz_len (by simp)]
      rfl
    | false =>
      rw [hh] at c3
      rw [putR_in ⟨hi1, hi2⟩, putI_ins hok.up hh]
      have c4 := hs_Insert a (posI a p) (p, 0) hpl (by omega)
      have hq := its_one (q := 0 + ((posI a p : Nat) : Int).toNat) (l := inI a (posI a p) (p, 0)) (x := (p, 0)) (by rw [show 0 + ((posI a p : Nat) : Int).toNat = posI a p by omega]; exact inI_at a _ hpl)
      have hil := its_len (inI a (posI a p) (p, 0))
      rw [inI_len a (p, 0) hpl] at hil
      generalize posI a p = i at *
      repeat' (conv => whnf); first
        | ((refine Or.inl ⟨by rfl, _, c0, ?_⟩))
        | ((refine Or.inr (Or.inl ⟨by rfl, _, _, c1, ?_⟩)))
        | ((refine Or.inl ⟨by rfl, _, c2, ?_⟩))
        | ((refine Or.inr (Or.inr (Or.inl (lend_vec rfl hal.symm rfl rfl c3 rfl ?_)))))
        | ((refine ⟨_, hq, ?_⟩))
        | ((refine Or.inr (Or.inr (Or.inr (Or.inr (Or.inr ?_)))); (conv => whnf); refine ⟨Or.inl (Nat.zero_le _), ?_⟩; (conv => whnf); refine ⟨_, _, _, _, c4, rfl, its_loose _, ?_⟩))
        | ((refine fun x hx => ?_); (obtain ⟨y, hy, rfl⟩ := its_get hx; clear hx))
        | ((refine Br.beq (by rfl) ?_))
        | ((refine Br.bne (by rfl) ?_))
        | ((refine And.intro (Or.inl (Nat.zero_le _)) ?_))
        | (refine Br.tt ?_)
        | (refine Br.ff ?_)
        | (refine Br.dec (fun h => ?_) (fun h => ?_)) <;> try (exfalso; omega)
        | (refine Br.neg ?_)
        | (refine Br.mk (fun h => ?_) (fun h => ?_))
        | (refine And.intro rfl ?_)
        | (refine And.intro (by omega) ?_)
        | (refine ⟨_, Or.inl ⟨⟨by omega, by omega⟩, rfl⟩, ?_⟩)
        | (refine And.intro (by simp only [lens_all, its_len]; first | done | omega) ?_)
        | (refine And.intro (Nat.le_refl _) ?_)
        | fail
      refine And.intro (by rw [List.length_set, hil]; omega) ?_
      conv => whnf
      show SV.agg [.int .i64 N, .slc 2 (List.take (a.length + 1) (List.drop 0 ((its (inI a i (p, 0))).set (0 + (i : Int).toNat) [.int .i64 p, .int .i64 v])))] = VC N (inI a i (p, v))
      rw [show 0 + (i : Int).toNat = i by omega, its_set, inI_set a _ _ hpl, frz_len (inI_len a _ hpl).symm]
      rfl
  · rw [← hout hin]
    have c2' : (decide (0 ≤ p) && decide (p ≤ N - 1)) = false := by
      rw [Bool.eq_false_iff, Ne, Bool.and_eq_true, decide_eq_true_eq, decide_eq_true_eq]; omega
    rw [c2'] at c2
    repeat' (conv => whnf); first
      | ((refine Or.inl ⟨by rfl, _, c0, ?_⟩))
      | ((refine Or.inr (Or.inl ⟨by rfl, _, _, c1, ?_⟩)))
      | ((refine Or.inl ⟨by rfl, _, c2, ?_⟩))
      | ((refine fun x hx => ?_); (obtain ⟨y, hy, rfl⟩ := its_get hx; clear hx))
      | ((refine Br.beq (by rfl) ?_))
      | ((refine Br.bne (by rfl) ?_))
      | ((refine And.intro (Or.inl (Nat.zero_le _)) ?_))
      | (refine Br.tt ?_)
      | (refine Br.ff ?_)
      | (refine Br.dec (fun h => ?_) (fun h => ?_)) <;> try (exfalso; omega)
      | (refine Br.neg ?_)
      | (refine Br.mk (fun h => ?_) (fun h => ?_))
      | (refine And.intro rfl ?_)
      | (refine And.intro (by omega) ?_)
      | (refine ⟨_, Or.inl ⟨⟨by omega, by omega⟩, rfl⟩, ?_⟩)
      | (refine And.intro (by simp only [lens_all]; first | done | omega) ?_)
      | (refine And.intro (Nat.le_refl _) ?_)
      | fail
    conv => whnf
    show SV.agg [.int .i64 N, .slc 2 (List.take a.length (List.drop 0 (its a)))] = VC N a
    rw [frz_len rfl]
    rfl
end
section
open Go.RowKit
attribute [local irreducible] FS FO IT HS
end
section
open Go.RowKit
attribute [local irreducible] FS FO IT HS
end
section
open Go.RowKit
attribute [local irreducible] FS FO IT HS
end
section
open Go.RowKit
attribute [local irreducible] FS FO IT HS

abbrev Vc := Int × List (Int × Int)
def vecs (l : List Vc) : List (List SV) := l.map fun v => [.int .i64 v.1, IL v.2]
def VL (l : List Vc) : SV := .slc 2 (vecs l)
theorem vecs_len (l : List Vc) : (vecs l).length = l.length := by simp [vecs]
theorem vecs_go {l : List Vc} {v : Vc} {q i : Nat} {K : List SV → Prop} (hq : q = i) (hx : l.getD i (0, []) = v) (h : K [.int .i64 v.1, IL v.2]) : ∀ y, (vecs l)[q]? = some y → K y := fun y hy => by
  subst hq
  have : ∃ u, l[q]? = some u ∧ y = [.int .i64 u.1, IL u.2] := by
    simp only [vecs, List.getElem?_map, Option.map_eq_some_iff] at hy
    obtain ⟨u, h1, h2⟩ := hy
    exact ⟨u, h1, h2.symm⟩
  obtain ⟨u, hu, rfl⟩ := this
  have : u = v := by rw [← hx]; simp [hu]
  rw [this]; exact h

/-- Items moved by so many places. -/
def mvI (b : Int) (l : List (Int × Int)) : List (Int × Int) := l.map fun x => (b + x.1, x.2)
theorem mvI_len (b : Int) (l : List (Int × Int)) : (mvI b l).length = l.length := by simp [mvI]
def glS (s : Vc) (v : Vc) : Vc := (s.1 + sn v.1 v.2, s.2 ++ mvI s.1 (sl v.1 v.2))
def glK (vs : List Vc) (k : Nat) : Vc := (vs.take k).foldl glS (0, [])
def glR (vs : List Vc) : Int × List (Int × Int) × Int := if (glK vs vs.length).1 ≤ 4096 then ((glK vs vs.length).1, (glK vs vs.length).2, 0) else (0, [], 5)
theorem glK_more {vs : List Vc} {k : Nat} (h : k < vs.length) : glK vs (k + 1) = glS (glK vs k) (vs.getD k (0, [])) := by
  unfold glK
  rw [List.take_add_one, List.getElem?_eq_getElem h, List.foldl_append, List.getD_eq_getElem?_getD, List.getElem?_eq_getElem h]
  rfl
theorem glK_mono (vs : List Vc) : ∀ k j, (glK vs k).1 ≤ (glK vs (k + j)).1
  | k, 0 => Int.le_refl _
  | k, j + 1 => by
    have h1 := glK_mono vs k j
    rcases Nat.lt_or_ge (k + j) vs.length with h | h
    · rw [show k + (j + 1) = (k + j) + 1 by omega, glK_more h]
      have := (sn_le (vs.getD (k + j) (0, [])).1 (vs.getD (k + j) (0, [])).2).1
      show _ ≤ (glK vs (k + j)).1 + _
      omega
    · have : glK vs (k + (j + 1)) = glK vs (k + j) := by
        unfold glK
        rw [List.take_of_length_le h, List.take_of_length_le (by omega)]
      rw [this]; exact h1
theorem up_append {l m : List (Int × Int)} (hl : Up l) (hm : Up m) (h : ∀ x ∈ l, ∀ y ∈ m, x.1 < y.1) : Up (l ++ m) := List.pairwise_append.2 ⟨hl, hm, h⟩
theorem up_mvI {b : Int} {l : List (Int × Int)} (h : Up l) : Up (mvI b l) := by
  refine List.pairwise_map.2 (h.imp fun {x y} h => ?_)
  show b + x.1 < b + y.1
  omega
theorem okV_glS {s v : Vc} (h : OkV s.1 s.2) (hle : s.1 + sn v.1 v.2 ≤ 4096) : OkV (glS s v).1 (glS s v).2 := by
  have hv := okV v.1 v.2
  refine ⟨by show 0 ≤ s.1 + sn v.1 v.2; have := h.n0; have := hv.n0; omega, hle, up_append h.up (up_mvI hv.up) fun x hx y hy => ?_, fun x hx => ?_⟩
  · obtain ⟨z, hz, rfl⟩ := List.mem_map.1 hy
    have h1 := h.lo x hx
    have h2 := hv.lo z hz
    show x.1 < s.1 + z.1
    omega
  · show 0 ≤ x.1 ∧ x.1 < s.1 + sn v.1 v.2
    rcases List.mem_append.1 hx with hx | hx
    · have h1 := h.lo x hx
      have := hv.n0
      omega
    · obtain ⟨z, hz, rfl⟩ := List.mem_map.1 hx
      have h2 := hv.lo z hz
      have := h.n0
      show 0 ≤ s.1 + z.1 ∧ s.1 + z.1 < s.1 + sn v.1 v.2
      omega
theorem okV_glK (vs : List Vc) : ∀ k, (glK vs k).1 ≤ 4096 → OkV (glK vs k).1 (glK vs k).2
  | 0, _ => ⟨Int.le_refl _, by show (0 : Int) ≤ 4096; omega, .nil, by intro x hx; cases hx⟩
  | k + 1, h => by
    rcases Nat.lt_or_ge k vs.length with hk | hk
    · have h0 := glK_mono vs k 1
      have ih := okV_glK vs k (by omega)
      rw [glK_more hk] at h ⊢
      exact okV_glS ih h
    · have : glK vs (k + 1) = glK vs k := by
        unfold glK
        rw [List.take_of_length_le hk, List.take_of_length_le (by omega)]
      rw [this] at h ⊢
      exact okV_glK vs k h

def ir_fretworkref09_Glue : IR :=
(.seq (.reg (⟨(some 2), .al [.int .i64 0, .nils], none⟩ ::⟨(some 3), .mv (.c (.int .i64 0)), none⟩ :: [])) (.seq (.reg (⟨(some 4), .al [.int .i64 0, .nils], none⟩ :: [])) (.seq (.seq (.reg (⟨(some 5), .mv (.c (.int .i64 0)), none⟩ :: [])) (.block 0 (.loop (.seq (.seq (.reg (⟨(some 8), .mv (.t 5), none⟩ ::⟨(some 9), .mv (.t 0), none⟩ ::⟨(some 10), .ln (.t 9), none⟩ ::⟨(some 11), .bin .lss (.t 8) (.t 10), none⟩ :: [])) (.cond (.t 11) .skip (.exit 0))) (.seq (.block 1 (.seq (.reg (⟨(some 14), .mv (.t 0), none⟩ ::⟨(some 15), .mv (.t 5), none⟩ ::⟨(some 16), .ia 2 (.t 14) (.t 15), none⟩ ::⟨(some 17), .ld 2 true (.t 16), none⟩ ::⟨(some 18), .call (.c (.fn 76 [])) [(.t 17)], none⟩ ::⟨(some 6), .al [.int .i64 0, .nils], none⟩ ::⟨none, .st 2 (.t 6) (.t 18), none⟩ :: [])) (.seq (.seq (.reg (⟨(some 7), .mv (.c (.int .i64 0)), none⟩ :: [])) (.block 2 (.loop (.seq (.seq (.reg (⟨(some 19), .mv (.t 7), none⟩ ::⟨(some 20), .fa 1 (.t 6), none⟩ ::⟨(some 21), .ld 1 false (.t 20), none⟩ ::⟨(some 22), .ln (.t 21), none⟩ ::⟨(some 23), .bin .lss (.t 19) (.t 22), none⟩ :: [])) (.cond (.t 23) .skip (.exit 2))) (.seq (.block 3 (.draw (⟨(some 26), .fa 1 (.t 4), none⟩ ::⟨(some 27), .ld 1 false (.t 26), none⟩ ::⟨(some 28), .fa 0 (.t 4), none⟩ ::⟨(some 29), .ld 1 false (.t 28), none⟩ ::⟨(some 30), .fa 1 (.t 6), none⟩ ::⟨(some 31), .ld 1 false (.t 30), none⟩ ::⟨(some 32), .mv (.t 7), none⟩ ::⟨(some 33), .ia 2 (.t 31) (.t 32), none⟩ ::⟨(some 34), .fa 0 (.t 33), none⟩ ::⟨(some 35), .ld 1 false (.t 34), none⟩ ::⟨(some 36), .bin .add (.t 29) (.t 35), none⟩ ::⟨(some 37), .fa 1 (.t 6), none⟩ ::⟨(some 38), .ld 1 false (.t 37), none⟩ ::⟨(some 39), .mv (.t 7), none⟩ ::⟨(some 40), .ia 2 (.t 38) (.t 39), none⟩ ::⟨(some 41), .fa 1 (.t 40), none⟩ ::⟨(some 42), .ld 1 false (.t 41), none⟩ ::⟨(some 43), .bld [.int .i64 0, .int .i64 0] [(0, 1, (.t 36)), (1, 1, (.t 42))], none⟩ ::⟨(some 44), .bsl 1 2 [.int .i64 0, .int .i64 0] [(0, (.t 43))], none⟩ :: []) (⟨(some 45), .ap 2 16 (.t 27) (.t 44), none⟩ ::⟨(some 46), .fa 1 (.t 4), none⟩ ::⟨none, .st 1 (.t 46) (.t 45), none⟩ :: []))) (.reg (⟨(some 24), .mv (.t 7), none⟩ ::⟨(some 25), .bin .add (.t 24) (.c (.int .i64 1)), none⟩ ::⟨(some 7), .mv (.t 25), none⟩ :: []))))))) (.seq (.reg (⟨(some 47), .fa 0 (.t 4), none⟩ ::⟨(some 48), .ld 1 false (.t 47), none⟩ ::⟨(some 49), .fa 0 (.t 6), none⟩ ::⟨(some 50), .ld 1 false (.t 49), none⟩ ::⟨(some 51), .bin .add (.t 48) (.t 50), none⟩ ::⟨(some 52), .fa 0 (.t 4), none⟩ ::⟨none, .st 1 (.t 52) (.t 51), none⟩ :: [])) (.seq (.reg (⟨(some 53), .fa 0 (.t 4), none⟩ ::⟨(some 54), .ld 1 false (.t 53), none⟩ ::⟨(some 55), .bin .gtr (.t 54) (.c (.int .i64 4096)), none⟩ :: [])) (.cond (.t 55) (.seq (.reg (⟨(some 56), .bld [.int .i64 0, .nils] [], none⟩ ::⟨none, .st 2 (.t 2) (.t 56), none⟩ ::⟨(some 3), .mv (.c (.int .i64 5)), none⟩ :: [])) .ret) .skip)))))) (.reg (⟨(some 12), .mv (.t 5), none⟩ ::⟨(some 13), .bin .add (.t 12) (.c (.int .i64 1)), none⟩ ::⟨(some 5), .mv (.t 13), none⟩ :: []))))))) (.seq (.reg (⟨(some 57), .ld 2 true (.t 4), none⟩ ::⟨none, .st 2 (.t 2) (.t 57), none⟩ ::⟨(some 3), .mv (.c (.int .i64 0)), none⟩ :: [])) .ret))))
theorem cd_fretworkref09_Glue : Code1 Try.prog 64 58 ir_fretworkref09_Glue [.c 2 true 2, .t 3] := ⟨Try.call64, _, _, Try.func64, rfl, by kernel_rfl, by kernel_rfl, by kernel_rfl, by kernel_rfl⟩
end
section
open Go.RowKit
attribute [local irreducible] FS FO IT HS
end
end Go.Proofs.Ytahpfomabgfmkaa
