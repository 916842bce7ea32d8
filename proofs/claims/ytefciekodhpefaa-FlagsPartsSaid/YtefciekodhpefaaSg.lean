/- What is shown of an operation that turns nothing is what it does: the rest, and all in one. -/
import Derived.Test.YtefciekodhpefaaSf
import Derived.Laws.Small
namespace Go.Proofs.Ytefciekodhpefaa
open Go.RowKit

section
variable {P : Program}

theorem map_reps {w : World} {A : Nat → Prop} {β : List (Option Nat)} {e : Env} {a : Act} (xs : List Operand) (h : ∀ x ∈ xs, Rep w A β (ev e (cOpd x)) (a.eval x)) : Reps w A β ((xs.map cOpd).map (ev e)) (xs.map a.eval) :=
  ⟨by simp, fun i f v h1 h2 => by
    simp only [List.getElem?_map] at h1 h2
    cases hx : xs[i]? with
    | none => simp [hx] at h1
    | some x =>
      simp [hx] at h1 h2
      subst h1 h2
      exact h x (List.mem_of_getElem? hx)⟩

theorem reps_append {w : World} {A : Nat → Prop} {β : List (Option Nat)} {fs gs : List SV} {us vs : List Value} (h : Reps w A β fs us) (k : Reps w A β gs vs) : Reps w A β (fs ++ gs) (us ++ vs) :=
  ⟨by simp [h.1, k.1], fun i f v h1 h2 => by
    by_cases hi : i < fs.length
    · rw [List.getElem?_append_left hi] at h1
      rw [List.getElem?_append_left (by rw [h.1]; exact hi)] at h2
      exact h.2 i f v h1 h2
    · rw [List.getElem?_append_right (by omega)] at h1
      rw [List.getElem?_append_right (by rw [h.1]; omega), h.1] at h2
      exact k.2 _ f v h1 h2⟩

theorem reps_purely {w : World} {A : Nat → Prop} {β : List (Option Nat)} {fs : List SV} {us : List Value} (h : Reps w A β fs us) (hp : SV.pure.pureL fs = true) (γ : List (Option Nat)) : Reps w A γ fs us :=
  ⟨h.1, fun i f v h1 h2 => (h.2 i f v h1 h2).purely (pureL_mem hp i f h1) γ⟩

theorem ia_good {o : Oper} {t : TypeId} {x i : Operand} (ho : o.op = .indexAddr t x i) {op : IOp} {e : Env} {H : List Blk} {K : SV → Prop} (hc : cop P o = some op) (h : pop P op e H K) : ∃ sv, K sv ∧ Good P o e H sv := by
  have hxm : x ∈ o.op.operands := by simp [ho, Op.operands]
  have him : i ∈ o.op.operands := by simp [ho, Op.operands]
  simp only [cop, ho] at hc
  split at hc
  · rename_i el hu
    obtain ⟨s, hs, rfl⟩ := Option.map_eq_some_iff.1 hc
    simp only [pop] at h
    obtain ⟨k, z, hi, h⟩ := asI_ex h
    split at h
    · rename_i wd xs he
      obtain ⟨rfl, h0, h1, h⟩ := h
      have hlt : z.toNat < xs.length := by omega
      refine ⟨_, h (xs[z.toNat]) (by simp [hlt]), good_of fun w A β a hW hr => ?_⟩
      have hrep := eval_rep hr hxm he
      have hirep := rep_int (eval_rep hr him hi)
      generalize hav : a.eval x = v at hrep
      cases hrep with
      | slcZ => simp at hlt
      | slc _ _ _ b off cap vs hm hcap hcs =>
        refine ⟨.pointer (some ⟨b, off + z.toNat * wd, none⟩), ?_, ?_⟩
        · simp [execOp, ho, Instr.indexAt, hirep, asIntOf, run_under hu, hav, run_size hs, h0, h1, addr_add]
        · have hlen : (xs[z.toNat]).length = wd := hm.len z.toNat _ (by simp [hlt])
          refine .box β (xs[z.toNat]) 0 b (off + z.toNat * wd) vs ⟨?_, hm.away, fun k y hy => ?_⟩ fun j c hc => ?_
          · obtain ⟨cs, T, fr, hb, hcell⟩ := hm.blk
            refine ⟨cs, T, fr, hb, fun k y j hy hj => ?_⟩
            cases k with
            | zero => simpa [Nat.zero_mul] using hcell z.toNat xs[z.toNat] j (by simp [hlt]) (by rw [← hlen]; exact hj)
            | succ k => simp at hy
          · cases k with
            | zero => simp at hy; rw [← hy]
            | succ k => simp at hy
          · exact hcs z.toNat _ j c (by simp [hlt]) hc
    · rename_i k' wd b n he
      obtain ⟨rfl, h0, h1, h⟩ := h
      refine ⟨_, h, good_of fun w A β a hW hr => ?_⟩
      have hrep := eval_rep hr hxm he
      have hirep := rep_int (eval_rep hr him hi)
      generalize hav : a.eval x = v at hrep
      cases hrep with
      | oslZ => omega
      | osl _ _ _ _ _ b' cap hk hcap hsz =>
        refine ⟨.pointer (some ⟨b', b * wd + z.toNat * wd, none⟩), ?_, ?_⟩
        · simp [execOp, ho, Instr.indexAt, hirep, asIntOf, run_under hu, hav, run_size hs, h0, h1, addr_add]
        · have := Rep.ptr (w := w) (A := A) β k' wd (b + z.toNat) 0 b' hk
          rwa [Nat.add_zero, Nat.add_mul] at this
    · exact h.elim
  · rename_i n el hu
    obtain ⟨s, hs, rfl⟩ := Option.map_eq_some_iff.1 hc
    simp only [pop] at h
    obtain ⟨k, z, hi, h0, h1, h⟩ := asI_ex h
    split at h
    · rename_i k' wd' i0 j0 he
      refine ⟨_, h, good_of fun w A β a hW hr => ?_⟩
      have hrep := eval_rep hr hxm he
      have hirep := rep_int (eval_rep hr him hi)
      generalize hav : a.eval x = v at hrep
      cases hrep
      rename_i b hb
      refine ⟨.pointer (some ⟨b, i0 * wd' + j0 + z.toNat * s, none⟩), ?_, by rw [Nat.add_assoc]; exact .ptr _ _ _ _ _ _ hb⟩
      simp [execOp, ho, Instr.indexAt, hirep, asIntOf, run_under hu, hav, run_size hs, h0, h1, addr_add, Instr.sureAddr]
    · rename_i cells j he
      refine ⟨_, h, good_of fun w A β a hW hr => ?_⟩
      have hrep := eval_rep hr hxm he
      have hirep := rep_int (eval_rep hr him hi)
      generalize hav : a.eval x = v at hrep
      cases hrep
      rename_i b off vs hm hcs
      refine ⟨.pointer (some ⟨b, off + j + z.toNat * s, none⟩), ?_, by rw [Nat.add_assoc]; exact .box _ _ _ _ _ vs hm hcs⟩
      simp [execOp, ho, Instr.indexAt, hirep, asIntOf, run_under hu, hav, run_size hs, h0, h1, addr_add, Instr.sureAddr]
    · exact h.elim
  · cases hc

theorem ix_good {o : Oper} {t : TypeId} {x i : Operand} (ho : o.op = .index t x i) {n : Nat} {el : TypeId} (hu : P.underlying t = some (.array n el)) {op : IOp} {e : Env} {H : List Blk} {K : SV → Prop} (hc : cop P o = some op) (h : pop P op e H K) : ∃ sv, K sv ∧ Good P o e H sv := by
  have hxm : x ∈ o.op.operands := by simp [ho, Op.operands]
  have him : i ∈ o.op.operands := by simp [ho, Op.operands]
  simp only [cop, ho, hu] at hc
  split at hc
  · rename_i s ag hs hag
    cases hc
    simp only [pop] at h
    obtain ⟨k, z, hi, h0, h1, h⟩ := asI_ex h
    split at h
    · rename_i fs he
      obtain ⟨sv, hK, hp⟩ := partK_ex h
      refine ⟨sv, hK, good_of fun w A β a hW hr => ?_⟩
      have hrep := eval_rep hr hxm he
      have hirep := rep_int (eval_rep hr him hi)
      generalize hav : a.eval x = v at hrep
      cases hrep
      rename_i vs hl hh
      obtain ⟨u, h2, h3⟩ := part_field (w := w) hs hag hp ⟨hl, hh⟩
      refine ⟨u, ?_, h3⟩
      simp [execOp, ho, Instr.index, hirep, asIntOf, run_under hu, hav, run_size hs, h0, h1, h2]
    · exact h.elim
  · cases hc

theorem oth_good {o : Oper} {e : Env} {H : List Blk} {K : SV → Prop} (h : pop P (.oth o) e H K) : ∃ sv, K sv ∧ Good P o e H sv := by
  obtain ⟨res, hok, hK⟩ := h
  refine ⟨res, hK, fun w A β a hA hW hr => ?_⟩
  obtain ⟨v, h1, h2⟩ := hok w A β a hr
  exact rel_value h1 ⟨Below.refl _ _, h2⟩

theorem run_equal_slice_nil (w : World) (t el : TypeId) (ad : Option Addr) (n c : Nat) (hu : P.underlying t = some (.slice el)) : (Op.equal t (.slice ad n c) (.slice none 0 0)).run P w = .ok ad.isNone w := by
  show (Op.equalIn (9999 + 1) t (.slice ad n c) (.slice none 0 0)).run P w = _
  unfold Op.equalIn
  cases ad <;> simp [run_underlying hu]

theorem rep_str {w : World} {A : Nat → Prop} {β : List (Option Nat)} {s : List UInt8} {v : Value} (h : Rep w A β (.str s) v) : v = .string ⟨s.toArray⟩ := by cases h; rfl

theorem str_beq (p q : List UInt8) : ((⟨p.toArray⟩ : ByteArray).toList == (⟨q.toArray⟩ : ByteArray).toList) = decide (p = q) := by
  rw [ByteArray.toList_eq, ByteArray.toList_eq]
  show (p == q) = _
  rw [Bool.eq_iff_iff]; simp

theorem bin_good {o : Oper} {b : BinOp} {t yt : TypeId} {x y : Operand} (ho : o.op = .binOp b t x y yt) {op : IOp} {e : Env} {H : List Blk} {K : SV → Prop} (hc : cop P o = some op) (h : pop P op e H K) : ∃ sv, K sv ∧ Good P o e H sv := by
  have hxm : x ∈ o.op.operands := by simp [ho, Op.operands]
  have hym : y ∈ o.op.operands := by simp [ho, Op.operands]
  have hints : ∀ {b : BinOp}, o.op = .binOp b t x y yt → binK b (ev e (cOpd x)) (ev e (cOpd y)) K → ∃ sv, K sv ∧ Good P o e H sv := by
    intro b ho h
    unfold binK at h
    split at h
    · rename_i k a' k' b' hx hy
      obtain ⟨sv, hK, v, hrun, hrep⟩ := intK_sound (P := P) t h
      refine ⟨sv, hK, good_of fun w A β a hW hr => ⟨v, ?_, hrep _ _ _⟩⟩
      have h1 := rep_int (eval_rep hr hxm hx)
      have h2 := rep_int (eval_rep hr hym hy)
      have hg : (eqGuard b t x y (.int k a') (.int k' b')).run P w = .ok () w := by
        unfold eqGuard; cases b <;> simp
      simp [execOp, ho, h1, h2, hg, hrun]
    · exact h.elim
  have hbools : ∀ neg : Bool, b = (if neg then .neq else .eql) → P.underlying t = some .bool → pop P (.beq neg (cOpd x) (cOpd y)) e H K → ∃ sv, K sv ∧ Good P o e H sv := by
    intro neg hb hu h
    simp only [pop] at h
    split at h
    · rename_i p q hx hy
      have h : K (.bool (if neg then p != q else p == q)) := by cases neg <;> exact h
      refine ⟨_, h, good_of fun w A β a hW hr => ⟨_, ?_, .bool _ _⟩⟩
      have h1 := rep_bool (eval_rep hr hxm hx)
      have h2 := rep_bool (eval_rep hr hym hy)
      have heq : (Op.equal t (.bool p) (.bool q)).run P w = .ok (p == q) w := by
        exact run_equal_bool w t p q hu
      subst hb
      cases neg
      · have hg : (eqGuard .eql t x y (.bool p) (.bool q)).run P w = .ok () w := by unfold eqGuard; simp
        simp only [execOp, ho, h1, h2, Sem.run_bind, Bool.false_eq_true, if_false, hg, Result.andThen_ok, binOp, heq, Sem.run_pure]
      · have hg : (eqGuard .neq t x y (.bool p) (.bool q)).run P w = .ok () w := by unfold eqGuard; simp
        simp only [execOp, ho, h1, h2, Sem.run_bind, if_true, hg, Result.andThen_ok, binOp, heq, Sem.run_pure, bne]
    · exact h.elim
  have hstrs : ∀ neg : Bool, b = (if neg then .neq else .eql) → P.underlying t = some .string → pop P (.seq neg (cOpd x) (cOpd y)) e H K → ∃ sv, K sv ∧ Good P o e H sv := by
    intro neg hb hu h
    simp only [pop] at h
    split at h
    · rename_i p q hx hy
      have h : K (.bool (if neg then decide (p ≠ q) else decide (p = q))) := by cases neg <;> exact h
      refine ⟨_, h, good_of fun w A β a hW hr => ⟨_, ?_, .bool _ _⟩⟩
      have h1 := rep_str (eval_rep hr hxm hx)
      have h2 := rep_str (eval_rep hr hym hy)
      have heq := str_beq p q
      subst hb
      cases neg
      · have hg : (eqGuard .eql t x y (.string ⟨p.toArray⟩) (.string ⟨q.toArray⟩)).run P w = .ok () w := by unfold eqGuard; simp
        simp [execOp, ho, h1, h2, hg, binOp, Op.stringOp, heq]
        rw [Bool.eq_iff_iff]; simp
      · have hg : (eqGuard .neq t x y (.string ⟨p.toArray⟩) (.string ⟨q.toArray⟩)).run P w = .ok () w := by unfold eqGuard; simp
        simp [execOp, ho, h1, h2, hg, binOp, Op.stringOp, heq]
        rw [Bool.eq_iff_iff]; simp
    · exact h.elim
  have haggs : ∀ neg : Bool, b = (if neg then .neq else .eql) → pop P (.eqv neg t (cOpd x) (cOpd y)) e H K → ∃ sv, K sv ∧ Good P o e H sv := by
    intro neg hb h
    simp only [pop] at h
    split at h
    · rename_i fs gs hx hy
      obtain ⟨c, hok, hK⟩ := h
      refine ⟨_, hK, good_of fun w A β a hW hr => ⟨.bool c, ?_, .bool _ _⟩⟩
      have := hok w A β _ _ x y (eval_rep hr hxm hx) (eval_rep hr hym hy)
      subst hb
      simp only [execOp, ho, Sem.run_bind] at this ⊢
      rw [this]
      rfl
    · exact h.elim
  have hnil : ∀ (neg : Bool) (el : TypeId), b = (if neg then .neq else .eql) → P.underlying t = some (.slice el) → isNilS y = true → pop P (.isn neg (cOpd x)) e H K → ∃ sv, K sv ∧ Good P o e H sv := by
    intro neg el hb hu hy h
    have hyv : ∀ a : Act, a.eval y = .slice none 0 0 := by
      intro a
      unfold isNilS at hy
      split at hy
      · rfl
      · cases hy
    have run : ∀ (w : World) (a : Act) (ad : Option Addr) (n c : Nat), a.eval x = .slice ad n c → (execOp a.eval o).run P w = .ok (.value (.bool (if neg then !ad.isNone else ad.isNone))) w := by
      intro w a ad n c hx
      have heq := run_equal_slice_nil (P := P) w t el ad n c hu
      subst hb
      cases neg
      · have hg : (eqGuard .eql t x y (.slice ad n c) (.slice none 0 0)).run P w = .ok () w := by unfold eqGuard; simp
        simp only [execOp, ho, hx, hyv, Sem.run_bind, Bool.false_eq_true, if_false, hg, Result.andThen_ok, binOp, heq, Sem.run_pure]
      · have hg : (eqGuard .neq t x y (.slice ad n c) (.slice none 0 0)).run P w = .ok () w := by unfold eqGuard; simp
        simp only [execOp, ho, hx, hyv, Sem.run_bind, if_true, hg, Result.andThen_ok, binOp, heq, Sem.run_pure]
    simp only [pop] at h
    split at h
    · rename_i wd xs hx
      by_cases hxs : xs = []
      · refine ⟨_, h.2 hxs, good_of fun w A β a hW hr => ?_⟩
        have hrep := eval_rep hr hxm hx
        generalize hav : a.eval x = v at hrep
        cases hrep with
        | slcZ => exact ⟨_, run w a _ _ _ hav, .anyb _ _⟩
        | slc => exact ⟨_, run w a _ _ _ hav, .anyb _ _⟩
      · refine ⟨_, h.1 hxs, good_of fun w A β a hW hr => ?_⟩
        have hrep := eval_rep hr hxm hx
        generalize hav : a.eval x = v at hrep
        cases hrep with
        | slcZ => exact absurd rfl hxs
        | slc => exact ⟨_, run w a _ _ _ hav, by cases neg <;> exact .bool _ _⟩
    · rename_i k wd i n hx
      by_cases hn : n = 0
      · refine ⟨_, h.2 hn, good_of fun w A β a hW hr => ?_⟩
        have hrep := eval_rep hr hxm hx
        generalize hav : a.eval x = v at hrep
        cases hrep with
        | oslZ => exact ⟨_, run w a _ _ _ hav, .anyb _ _⟩
        | osl => exact ⟨_, run w a _ _ _ hav, .anyb _ _⟩
      · refine ⟨_, h.1 hn, good_of fun w A β a hW hr => ?_⟩
        have hrep := eval_rep hr hxm hx
        generalize hav : a.eval x = v at hrep
        cases hrep with
        | oslZ => exact absurd rfl hn
        | osl => exact ⟨_, run w a _ _ _ hav, by cases neg <;> exact .bool _ _⟩
    · rename_i hx
      refine ⟨_, h, good_of fun w A β a hW hr => ?_⟩
      have hrep := eval_rep hr hxm hx
      generalize hav : a.eval x = v at hrep
      cases hrep
      exact ⟨_, run w a _ _ _ hav, .anyb _ _⟩
    · exact h.elim
  simp only [cop, ho] at hc
  split at hc
  · rename_i hu; cases hc; exact hbools false rfl hu h
  · rename_i hu; cases hc; exact hbools true rfl hu h
  · rename_i hu; cases hc; exact hstrs false rfl hu h
  · rename_i hu; cases hc; exact hstrs true rfl hu h
  · cases hc; exact haggs false rfl h
  · cases hc; exact haggs false rfl h
  · cases hc; exact haggs true rfl h
  · cases hc; exact haggs true rfl h
  · rename_i el hu
    split at hc
    · rename_i hy; cases hc; exact hnil false el rfl hu hy h
    · cases hc; exact oth_good h
  · rename_i el hu
    split at hc
    · rename_i hy; cases hc; exact hnil true el rfl hu hy h
    · cases hc; exact oth_good h
  · cases hc; exact hints ho h
  · cases hc; exact oth_good h

theorem frzs_reps {w : World} {A : Nat → Prop} {β : List (Option Nat)} {H : List Blk} {as : List SV} {vs : List Value} {K : List SV → Prop} (h : frzs (frzK 4 H) as K) (hW : WB w A β H) (hr : Reps w A β as vs) : ∃ ys, K ys ∧ Reps w (fun b => A b ∧ some b ∉ β) [] ys vs := by
  obtain ⟨ys, hK, hl, hys⟩ := frzs_sound (frzK_sound 4) as _ h
  exact ⟨ys, hK, by rw [hl]; exact hr.1, frz_list hl hys hW (fun b hb => hb.1) (fun k b hk hb => hb.2 (List.mem_of_getElem? hk)) hr.2⟩

theorem call_good {o : Oper} {c : Call} {f : Operand} (ho : o.op = .call c) (hf : c.callee = .value f) {e : Env} {H : List Blk} {K : SV → Prop} (h : pop P (.call (cOpd f) (c.args.toList.map cOpd)) e H K) : ∃ sv, K sv ∧ Good P o e H sv := by
  simp only [pop] at h
  split at h
  · rename_i g caps hfn
    have hfe : ev e (cOpd f) = .fn g caps := by
      unfold fnsOf at hfn; split at hfn
      · rename_i g' caps' he; cases hfn; exact he
      · cases hfn
    -- the arguments and the call
    have args : ∀ (w : World) (A : Nat → Prop) (β : List (Option Nat)) (a : Act), (∀ t, Operand.tmp t ∈ o.op.operands → Rep w A β (look e t) (a.tmps.getD t undef)) →
        ∃ vs, Reps w A β (c.args.toList.map (fun x => ev e (cOpd x)) ++ caps) vs ∧ ((∀ vs w, (callFunc g vs).run P w = .ok (.enter g vs) w) → (execOp a.eval o).run P w = .ok (.enter g vs.toArray) w) := fun w A β a hr => by
      have hr' : ∀ x, x ∈ o.op.operands → Rep w A β (ev e (cOpd x)) (a.eval x) := fun x hx => ev_rep x fun t ht => hr t (ht ▸ hx)
      have hfrep := hr' f (by simp [ho, Op.operands, Call.operands, hf])
      rw [hfe] at hfrep
      generalize hav : a.eval f = v at hfrep
      cases hfrep
      rename_i vs hl hh
      have hargs := map_reps (e := e) (a := a) c.args.toList fun x hx => hr' x (by simp [ho, Op.operands, Call.operands, hf]; exact .inr (by simpa using hx))
      refine ⟨_, reps_append (by simpa [Function.comp_def] using hargs) ⟨hl, hh⟩, fun hFS => ?_⟩
      simp only [execOp, ho, resolve, hf, hav, Deferred.ofValue, Sem.run_bind, Sem.run_pure, Result.andThen_ok, invoke]
      have : (#[] ++ c.args.map a.eval ++ vs.toArray) = (c.args.toList.map a.eval ++ vs).toArray := by
        apply Array.ext'; simp
      rw [this]
      exact hFS _ _
    rw [List.map_map] at h
    rcases h with ⟨hp, res, hFS, hK⟩ | h
    · refine ⟨res, hK, fun w A β a hA hW hr => ?_⟩
      obtain ⟨vs, hall, hrun⟩ := args w A β a hr
      have hall := reps_purely hall hp []
      unfold rel
      rw [hrun hFS.1]
      refine (hFS.2 w A _ hA hall.1 hall.2).mono ?_
      rintro e' w' ⟨v, rfl, hb, hrep⟩
      exact ⟨v, rfl, hb, hrep.more _ fun k b h => by simp at h⟩
    · obtain ⟨ys, ⟨res, hFS, hlo, hK⟩, hl, hys⟩ := frzs_sound (frzK_sound 4) _ _ h
      refine ⟨res, hK, fun w A β a hA hW hr => ?_⟩
      obtain ⟨vs, hall, hrun⟩ := args w A β a hr
      have hz := frz_list (A1 := fun b => A b ∧ some b ∉ β) hl hys hW (fun b hb => hb.1) (fun k b hk hb => hb.2 (List.mem_of_getElem? hk)) hall.2
      unfold rel
      rw [hrun hFS.1]
      refine (hFS.2 w _ _ (fun b hb => hA b hb.1) (hall.1.trans hl.symm) hz).mono ?_
      rintro e' w' ⟨v, rfl, hb, hrep⟩
      exact ⟨v, rfl, hb, (hrep.loosely hlo _).more _ fun k b h => by simp at h⟩
  · exact h.elim

theorem sl_good {o : Oper} {t : TypeId} {x : Operand} {lo hi mx : Option Operand} (ho : o.op = .slice t x lo hi mx) {el : TypeId} (hu : P.underlying t = some (.slice el)) {s : Nat} (hs : szOf P el = some s) {e : Env} {H : List Blk} {K : SV → Prop}
    (h : pop P (.sl s (cOpd x) (lo.map cOpd) (hi.map cOpd) (mx.map cOpd)) e H K) : ∃ sv, K sv ∧ Good P o e H sv := by
  have hxm : x ∈ o.op.operands := by simp [ho, Op.operands]
  have hlm : ∀ y, lo = some y → y ∈ o.op.operands := fun y hy => by simp [ho, Op.operands, hy]
  have hhm : ∀ y, hi = some y → y ∈ o.op.operands := fun y hy => by simp [ho, Op.operands, hy]
  have hmm : ∀ y, mx = some y → y ∈ o.op.operands := fun y hy => by simp [ho, Op.operands, hy]
  have lowEx : ∀ {K' : Int → Prop}, lowK e (lo.map cOpd) K' → ∃ l, K' l ∧ ∀ (w : World) (A : Nat → Prop) (β : List (Option Nat)) (a : Act), (∀ x, x ∈ o.op.operands → Rep w A β (ev e (cOpd x)) (a.eval x)) → ∀ (y : Nat) (c : BoundsCode), 0 ≤ l → l ≤ y →
      (match (lo.map a.eval) with | some v => Instr.sliceBound v y c | none => pure 0).run P w = .ok l.toNat w := by
    intro K' h
    unfold lowK at h
    cases lo with
    | none => exact ⟨0, h, fun w A β a hr y c _ _ => by simp⟩
    | some y =>
      simp only [Option.map_some] at h
      obtain ⟨k, z, hz, h⟩ := asI_ex h
      refine ⟨z, h, fun w A β a hr n c h0 h1 => ?_⟩
      have := rep_int (eval_rep hr (hlm y rfl) hz)
      simp [Instr.sliceBound, this, asIntOf, h0, h1]
  have highEx : ∀ {n : Nat} {K' : Int → Prop}, highK e n (hi.map cOpd) K' → ∃ l, K' l ∧ ∀ (w : World) (A : Nat → Prop) (β : List (Option Nat)) (a : Act), (∀ x, x ∈ o.op.operands → Rep w A β (ev e (cOpd x)) (a.eval x)) → ∀ (y : Nat) (c : BoundsCode), 0 ≤ l → l ≤ y →
      (match (hi.map a.eval) with | some v => Instr.sliceBound v y c | none => pure n).run P w = .ok l.toNat w := by
    intro n K' h
    unfold highK at h
    cases hi with
    | none => exact ⟨n, h, fun w A β a hr y c _ _ => by simp⟩
    | some y =>
      simp only [Option.map_some] at h
      obtain ⟨k, z, hz, h⟩ := asI_ex h
      refine ⟨z, h, fun w A β a hr n c h0 h1 => ?_⟩
      have := rep_int (eval_rep hr (hhm y rfl) hz)
      simp [Instr.sliceBound, this, asIntOf, h0, h1]
  -- the bounds, without a third one
  have bounds : ∀ {w : World} {a : Act} {len cap l hh : Nat}, mx = none → (∀ (y : Nat) (c : BoundsCode), hh ≤ y → (match (hi.map a.eval) with | some v => Instr.sliceBound v y c | none => pure len).run P w = .ok hh w) →
      (∀ (y : Nat) (c : BoundsCode), l ≤ y → (match (lo.map a.eval) with | some v => Instr.sliceBound v y c | none => pure 0).run P w = .ok l w) → l ≤ hh → hh ≤ cap → ∀ ad : Option Addr, a.eval x = .slice ad len cap →
      (execOp a.eval o).run P w = .ok (.value (.slice (if cap = l then ad else ad.map (·.add (l * s))) (hh - l) (cap - l))) w := by
    intro w a len cap l hh hmx h1 h2 h3 h4 ad he
    subst hmx
    have h1 := h1 cap .sliceAcap h4
    have h2 := h2 hh .sliceB h3
    have hb : (Instr.sliceBounds true len cap (lo.map a.eval) (hi.map a.eval) none).run P w = .ok (l, hh, cap) w := by
      unfold Instr.sliceBounds
      simp only [Sem.run_bind, Sem.run_pure, Result.andThen_ok]
      cases hhi : hi.map a.eval <;> cases hlo : lo.map a.eval <;> simp only [hhi, hlo] at h1 h2 ⊢ <;> simp_all
    simp only [execOp, ho, Instr.sliceAt, Sem.run_bind, run_under hu, Result.andThen_ok, he, Instr.slice, Option.map_none, hb, run_size hs, Sem.run_pure]
  simp only [pop, slK] at h
  split at h
  · -- three bounds, the last two 0
    rename_i m hm
    cases hmx : mx with
    | none => simp [hmx] at hm
    | some my =>
      simp only [hmx, Option.map_some, Option.some.injEq] at hm
      subst hm
      obtain ⟨km, zm, hzm, h⟩ := asI_ex h
      have three : ∀ hy, hi = some hy → lo = none → asI (ev e (cOpd hy)) (fun h => h = 0 ∧ zm = 0 ∧ K .nils) → (∀ (w : World) (A : Nat → Prop) (β : List (Option Nat)) (v : Value), Rep w A β (ev e (cOpd x)) v → ∃ ad n c, v = .slice ad n c) → ∃ sv, K sv ∧ Good P o e H sv := by
        intro hy hhi hlo h hsl
        obtain ⟨kh, zh, hzh, rfl, rfl, hK⟩ := asI_ex h
        refine ⟨_, hK, good_of fun w A β a hW hr => ?_⟩
        have h1 := rep_int (eval_rep hr (hhm hy hhi) hzh)
        have h2 := rep_int (eval_rep hr (hmm my hmx) hzm)
        obtain ⟨ad, n, c, hav⟩ := hsl w A β _ (hr x hxm)
        refine ⟨.slice ad 0 0, ?_, .nils _ _⟩
        simp [execOp, ho, Instr.sliceAt, run_under hu, hav, Instr.slice, hlo, hhi, hmx, h1, h2, Instr.sliceBounds, Instr.sliceBound, asIntOf, run_size hs]
      split at h
      all_goals first | exact h.elim | skip
      all_goals
        rename_i hy hl' hh' hx'
        cases hhi : hi with
        | none => simp [hhi] at hh'
        | some hy' =>
          cases hlo : lo with
          | some l => simp [hlo] at hl'
          | none =>
            simp only [hhi, Option.map_some, Option.some.injEq] at hh'
            subst hh'
            refine three hy' hhi hlo h fun w A β v hv => ?_
            rw [hx'] at hv
            cases hv <;> exact ⟨_, _, _, rfl⟩
  · rename_i hm
    have hmx : mx = none := by cases mx <;> simp at hm ⊢
    split at h
    · rename_i wd xs he
      obtain ⟨rfl, h⟩ := h
      obtain ⟨l, h, hlo⟩ := lowEx h
      obtain ⟨hh, ⟨h0, h1, h2, hK⟩, hhi⟩ := highEx h
      refine ⟨_, hK, good_of fun w A β a hW hr => ?_⟩
      have hrep := eval_rep hr hxm he
      generalize hav : a.eval x = v at hrep
      cases hrep with
      | slcZ _ _ ad =>
        simp only [List.length_nil] at h2
        have e1 : l = 0 := by omega
        have e2 : hh = 0 := by omega
        subst e1 e2
        refine ⟨_, bounds hmx (fun y c hy => hhi w A β a hr y c (by omega) (by omega)) (fun y c hy => hlo w A β a hr y c (by omega) (by omega)) (by omega) (by omega) ad hav, ?_⟩
        simp; exact .slcZ _ _ _
      | slc _ _ _ b off cap vs hmem hcap hcs =>
        refine ⟨_, bounds hmx (fun y c hy => hhi w A β a hr y c (by omega) (by omega)) (fun y c hy => hlo w A β a hr y c (by omega) (by omega)) (by omega) (by omega) _ hav, ?_⟩
        by_cases hcl : cap = l.toNat
        · rw [if_pos hcl]
          have e1 : hh.toNat - l.toNat = 0 := by omega
          have e2 : cap - l.toNat = 0 := by omega
          have e3 : (xs.take hh.toNat).drop l.toNat = [] := by apply List.drop_eq_nil_of_le; simp; omega
          rw [e1, e2, e3]
          exact .slcZ _ _ _
        · rw [if_neg hcl]
          have hlen : ((xs.take hh.toNat).drop l.toNat).length = hh.toNat - l.toNat := by simp; omega
          have hget : ∀ (i : Nat) (y : List SV), ((xs.take hh.toNat).drop l.toNat)[i]? = some y → xs[l.toNat + i]? = some y := fun i y hy => by
            rw [List.getElem?_drop] at hy
            have := (List.getElem?_eq_some_iff.1 hy).1
            simp only [List.length_take] at this
            rwa [List.getElem?_take_of_lt (by omega)] at hy
          have := Rep.slc (w := w) (A := A) β wd ((xs.take hh.toNat).drop l.toNat) b (off + l.toNat * wd) (cap - l.toNat) vs ⟨by
              obtain ⟨cs, T, fr, hb, hcell⟩ := hmem.blk
              refine ⟨cs, T, fr, hb, fun i y j hy hj => ?_⟩
              have := hcell _ y j (hget i y hy) hj
              rw [Nat.add_mul, ← Nat.add_assoc] at this
              exact this, hmem.away, fun i y hy => hmem.len _ y (hget i y hy)⟩ (by rw [hlen]; omega) fun i y j c hy hj => by
              have := hcs _ y j c (hget i y hy) hj
              rw [Nat.add_mul, ← Nat.add_assoc] at this
              exact this
          rw [hlen] at this
          simpa [addr_add] using this
    · rename_i k wd i n he
      obtain ⟨rfl, h⟩ := h
      obtain ⟨l, h, hlo⟩ := lowEx h
      obtain ⟨hh, ⟨h0, h1, h2, hK⟩, hhi⟩ := highEx h
      refine ⟨_, hK, good_of fun w A β a hW hr => ?_⟩
      have hrep := eval_rep hr hxm he
      generalize hav : a.eval x = v at hrep
      cases hrep with
      | oslZ _ _ _ _ ad =>
        have e1 : l = 0 := by omega
        have e2 : hh = 0 := by omega
        subst e1 e2
        refine ⟨_, bounds hmx (fun y c hy => hhi w A β a hr y c (by omega) (by omega)) (fun y c hy => hlo w A β a hr y c (by omega) (by omega)) (by omega) (by omega) ad hav, ?_⟩
        simp; exact .oslZ _ _ _ _ _
      | osl _ _ _ _ _ b cap hk hcap hsz =>
        refine ⟨_, bounds hmx (fun y c hy => hhi w A β a hr y c (by omega) (by omega)) (fun y c hy => hlo w A β a hr y c (by omega) (by omega)) (by omega) (by omega) _ hav, ?_⟩
        by_cases hcl : cap = l.toNat
        · rw [if_pos hcl]
          have e1 : hh.toNat - l.toNat = 0 := by omega
          have e2 : cap - l.toNat = 0 := by omega
          rw [e1, e2]
          exact .oslZ _ _ _ _ _
        · rw [if_neg hcl]
          have := Rep.osl (w := w) (A := A) β k wd (i + l.toNat) (hh.toNat - l.toNat) b (cap - l.toNat) hk (by omega) (by
            obtain ⟨cs, T, fr, hb, hle⟩ := hsz
            exact ⟨cs, T, fr, hb, by rw [show i + l.toNat + (cap - l.toNat) = i + cap by omega]; exact hle⟩)
          rw [Nat.add_mul] at this
          simpa [addr_add] using this
    · rename_i he
      obtain ⟨l, h, hlo⟩ := lowEx h
      obtain ⟨hh, ⟨rfl, rfl, hK⟩, hhi⟩ := highEx h
      refine ⟨_, hK, good_of fun w A β a hW hr => ?_⟩
      have hrep := eval_rep hr hxm he
      generalize hav : a.eval x = v at hrep
      cases hrep
      rename_i ad
      refine ⟨_, bounds hmx (fun y c hy => hhi w A β a hr y c (by omega) (by omega)) (fun y c hy => hlo w A β a hr y c (by omega) (by omega)) (by omega) (by omega) ad hav, ?_⟩
      simp; exact .nils _ _
    · exact h.elim

end
end Go.Proofs.Ytefciekodhpefaa
