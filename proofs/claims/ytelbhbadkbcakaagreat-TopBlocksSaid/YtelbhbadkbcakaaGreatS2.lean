/- What is shown of an operation that turns nothing is what it does: the rest, and all in one. What is shown of an operation that turns nothing is what it does: all in one. Operations that make blocks or write into one's own: what is to be shown of them; the walk's state. Operations that make blocks or write into one's own: what is shown of them is what they do. Append, copy, calls; all operations in one. -/
import Derived.Test.YtelbhbadkbcakaaGreatS1
import Derived.Laws.Small
import Derived.Laws.CopyRow
import Derived.Laws.MakeOwn
import Derived.Laws.AppendOwn
import Derived.Laws.Append
import Derived.Deep.Upon
namespace Go.Proofs.YtelbhbadkbcakaaGreat
section
open Go.RowKit
section
variable {P : Program}
theorem map_reps {w : World} {A : Nat -> Prop} {β : List (Option Nat)} {e : Env} {a : Act} (xs : List Operand) (h : ∀ x ∈ xs,Rep w A β (ev e (cOpd x)) (a.eval x)) : Reps w A β ((xs.map cOpd).map (ev e)) (xs.map a.eval) :=
  ⟨by simp, fun i f v h1 h2 => by
    simp only [List.getElem?_map] at h1 h2
    cases hx : xs[i]? with
    | none=>simp [hx] at h1
    | some x =>
      simp [hx] at h1 h2
      subst h1 h2
      exact h x (List.mem_of_getElem? hx)⟩
theorem reps_append {w : World} {A : Nat -> Prop} {β : List (Option Nat)} {fs gs : List SV} {us vs : List Value} (h : Reps w A β fs us) (k : Reps w A β gs vs) : Reps w A β (fs ++ gs) (us ++ vs) :=
  ⟨by simp [h.1, k.1], fun i f v h1 h2 => by
    by_cases hi : i < fs.length
    . rw [List.getElem?_append_left hi] at h1
      rw [List.getElem?_append_left (by rw [h.1]; exact hi)] at h2
      exact h.2 i f v h1 h2
    . rw [List.getElem?_append_right (by omega)] at h1
      rw [List.getElem?_append_right (by rw [h.1]; omega),h.1] at h2
      exact k.2 _ f v h1 h2⟩
theorem reps_purely {w : World} {A : Nat -> Prop} {β : List (Option Nat)} {fs : List SV} {us : List Value} (h : Reps w A β fs us) (hp : SV.pure.pureL fs = true) (γ : List (Option Nat)) : Reps w A γ fs us :=
  ⟨h.1,fun i f v h1 h2=>(h.2 i f v h1 h2).purely (pureL_mem hp i f h1) γ⟩
theorem ia_good {o : Oper} {t : TypeId} {x i : Operand} (ho : o.op = .indexAddr t x i) {op : IOp} {e : Env} {H : List Blk} {K : SV -> Prop} (hc : cop P o = some op) (h : pop P op e H K) : ∃ sv,K sv /\ Good P o e H sv:=by
  have hxm : x ∈ o.op.operands:=by simp [ho,Op.operands]
  have him : i ∈ o.op.operands:=by simp [ho,Op.operands]
  simp only [cop,ho] at hc
  split at hc
  . rename_i el hu
    obtain ⟨s,hs,rfl⟩:=Option.map_eq_some_iff.1 hc
    simp only [pop] at h
    obtain ⟨k,z,hi,h⟩:=asI_ex h
    split at h
    . rename_i wd xs he
      obtain ⟨rfl,h0,h1,h⟩:=h
      have hlt : z.toNat < xs.length:=by omega
      refine ⟨_,h (xs[z.toNat]) (by simp [hlt]),good_of fun w A β a hW hr=>?_⟩
      have hrep:=eval_rep hr hxm he
      have hirep:=rep_int (eval_rep hr him hi)
      generalize hav : a.eval x = v at hrep
      cases hrep with
      | slcZ=>simp at hlt
      | slc _ _ _ b off cap vs hm hcap hcs =>
        refine ⟨.pointer (some ⟨b,off + z.toNat * wd,none⟩),?_,?_⟩
        . simp [execOp,ho,Instr.indexAt,hirep,asIntOf,run_under hu,hav,run_size hs,h0,h1,addr_add]
        . have hlen : (xs[z.toNat]).length = wd:=hm.len z.toNat _ (by simp [hlt])
          refine .box β (xs[z.toNat]) 0 b (off + z.toNat * wd) vs ⟨?_,hm.away,fun k y hy=>?_⟩ fun j c hc=>?_
          . obtain ⟨cs,T,fr,hb,hcell⟩:=hm.blk
            refine ⟨cs,T,fr,hb,fun k y j hy hj=>?_⟩
            cases k with
            | zero=>simpa [Nat.zero_mul] using hcell z.toNat xs[z.toNat] j (by simp [hlt]) (by rw [<- hlen]; exact hj)
            | succ k=>simp at hy
          . cases k with
            | zero=>simp at hy; rw [<- hy]
            | succ k=>simp at hy
          . exact hcs z.toNat _ j c (by simp [hlt]) hc
    . rename_i k' wd b n he
      obtain ⟨rfl,h0,h1,h⟩:=h
      refine ⟨_,h,good_of fun w A β a hW hr=>?_⟩
      have hrep:=eval_rep hr hxm he
      have hirep:=rep_int (eval_rep hr him hi)
      generalize hav : a.eval x = v at hrep
      cases hrep with
      | oslZ=>omega
      | osl _ _ _ _ _ b' cap hk hcap hsz =>
        refine ⟨.pointer (some ⟨b',b * wd + z.toNat * wd,none⟩),?_,?_⟩
        . simp [execOp,ho,Instr.indexAt,hirep,asIntOf,run_under hu,hav,run_size hs,h0,h1,addr_add]
        . have:=Rep.ptr (w:=w) (A:=A) β k' wd (b + z.toNat) 0 b' hk
          rwa [Nat.add_zero,Nat.add_mul] at this
    . exact h.elim
  . rename_i n el hu
    obtain ⟨s,hs,rfl⟩:=Option.map_eq_some_iff.1 hc
    simp only [pop] at h
    obtain ⟨k,z,hi,h0,h1,h⟩:=asI_ex h
    split at h
    . rename_i k' wd' i0 j0 he
      refine ⟨_,h,good_of fun w A β a hW hr=>?_⟩
      have hrep:=eval_rep hr hxm he
      have hirep:=rep_int (eval_rep hr him hi)
      generalize hav : a.eval x = v at hrep
      cases hrep
      rename_i b hb
      refine ⟨.pointer (some ⟨b,i0 * wd' + j0 + z.toNat * s,none⟩),?_,by rw [Nat.add_assoc]; exact .ptr _ _ _ _ _ _ hb⟩
      simp [execOp,ho,Instr.indexAt,hirep,asIntOf,run_under hu,hav,run_size hs,h0,h1,addr_add,Instr.sureAddr]
    . rename_i cells j he
      refine ⟨_,h,good_of fun w A β a hW hr=>?_⟩
      have hrep:=eval_rep hr hxm he
      have hirep:=rep_int (eval_rep hr him hi)
      generalize hav : a.eval x = v at hrep
      cases hrep
      rename_i b off vs hm hcs
      refine ⟨.pointer (some ⟨b,off + j + z.toNat * s,none⟩),?_,by rw [Nat.add_assoc]; exact .box _ _ _ _ _ vs hm hcs⟩
      simp [execOp,ho,Instr.indexAt,hirep,asIntOf,run_under hu,hav,run_size hs,h0,h1,addr_add,Instr.sureAddr]
    . exact h.elim
  . cases hc
theorem ix_good {o : Oper} {t : TypeId} {x i : Operand} (ho : o.op = .index t x i) {n : Nat} {el : TypeId} (hu : P.underlying t = some (.array n el)) {op : IOp} {e : Env} {H : List Blk} {K : SV -> Prop} (hc : cop P o = some op) (h : pop P op e H K) : ∃ sv,K sv /\ Good P o e H sv:=by
  have hxm : x ∈ o.op.operands:=by simp [ho,Op.operands]
  have him : i ∈ o.op.operands:=by simp [ho,Op.operands]
  simp only [cop,ho,hu] at hc
  split at hc
  . rename_i s ag hs hag
    cases hc
    simp only [pop] at h
    obtain ⟨k,z,hi,h0,h1,h⟩:=asI_ex h
    split at h
    . rename_i fs he
      obtain ⟨sv,hK,hp⟩:=partK_ex h
      refine ⟨sv,hK,good_of fun w A β a hW hr=>?_⟩
      have hrep:=eval_rep hr hxm he
      have hirep:=rep_int (eval_rep hr him hi)
      generalize hav : a.eval x = v at hrep
      cases hrep
      rename_i vs hl hh
      obtain ⟨u,h2,h3⟩:=part_field (w:=w) hs hag hp ⟨hl,hh⟩
      refine ⟨u,?_,h3⟩
      simp [execOp,ho,Instr.index,hirep,asIntOf,run_under hu,hav,run_size hs,h0,h1,h2]
    . exact h.elim
  . cases hc
theorem oth_good {o : Oper} {e : Env} {H : List Blk} {K : SV -> Prop} (h : pop P (.oth o) e H K) : ∃ sv,K sv /\ Good P o e H sv:=by
  obtain ⟨res,hok,hK⟩:=h
  refine ⟨res,hK,fun w A β a hA hW hr=>?_⟩
  obtain ⟨v,h1,h2⟩:=hok w A β a hr
  exact rel_value h1 ⟨Belo.refl _ _,h2⟩
theorem run_equal_slice_nil (w : World) (t el : TypeId) (ad : Option Addr) (n c : Nat) (hu : P.underlying t = some (.slice el)) : (Op.equal t (.slice ad n c) (.slice none 0 0)).run P w = .ok ad.isNone w:=by
  show (Op.equalIn (9999 + 1) t (.slice ad n c) (.slice none 0 0)).run P w = _
  unfold Op.equalIn
  cases ad <;> simp [run_underlying hu]
theorem rep_str {w : World} {A : Nat -> Prop} {β : List (Option Nat)} {s : List UInt8} {v : Value} (h : Rep w A β (.str s) v) : v = .string ⟨s.toArray⟩:=by cases h; rfl
theorem str_beq (p q : List UInt8) : ((⟨p.toArray⟩ : ByteArray).toList == (⟨q.toArray⟩ : ByteArray).toList) = decide (p = q):=by
  rw [ByteArray.toList_eq,ByteArray.toList_eq]
  show (p == q) = _
  rw [Bool.eq_iff_iff]; simp
theorem bin_good {o : Oper} {b : BinOp} {t yt : TypeId} {x y : Operand} (ho : o.op = .binOp b t x y yt) {op : IOp} {e : Env} {H : List Blk} {K : SV -> Prop} (hc : cop P o = some op) (h : pop P op e H K) : ∃ sv,K sv /\ Good P o e H sv:=by
  have hxm : x ∈ o.op.operands:=by simp [ho,Op.operands]
  have hym : y ∈ o.op.operands:=by simp [ho,Op.operands]
  have hints : ∀ {b : BinOp},o.op = .binOp b t x y yt -> binK b (ev e (cOpd x)) (ev e (cOpd y)) K -> ∃ sv,K sv /\ Good P o e H sv:=by
    intro b ho h
    unfold binK at h
    split at h
    . rename_i k a' k' b' hx hy
      obtain ⟨sv,hK,v,hrun,hrep⟩:=intK_sound (P:=P) t h
      refine ⟨sv,hK,good_of fun w A β a hW hr=>⟨v,?_,hrep _ _ _⟩⟩
      have h1:=rep_int (eval_rep hr hxm hx)
      have h2:=rep_int (eval_rep hr hym hy)
      have hg : (eqGuard b t x y (.int k a') (.int k' b')).run P w = .ok () w:=by
        unfold eqGuard; cases b <;> simp
      simp [execOp,ho,h1,h2,hg,hrun]
    . exact h.elim
  have hbools : ∀ neg : Bool,b = (if neg then .neq else .eql) -> P.underlying t = some .bool -> pop P (.beq neg (cOpd x) (cOpd y)) e H K -> ∃ sv,K sv /\ Good P o e H sv:=by
    intro neg hb hu h
    simp only [pop] at h
    split at h
    . rename_i p q hx hy
      have h : K (.bool (if neg then p != q else p == q)):=by cases neg <;> exact h
      refine ⟨_,h,good_of fun w A β a hW hr=>⟨_,?_,.bool _ _⟩⟩
      have h1:=rep_bool (eval_rep hr hxm hx)
      have h2:=rep_bool (eval_rep hr hym hy)
      have heq : (Op.equal t (.bool p) (.bool q)).run P w = .ok (p == q) w:=by
        exact run_equal_bool w t p q hu
      subst hb
      cases neg
      . have hg : (eqGuard .eql t x y (.bool p) (.bool q)).run P w = .ok () w:=by unfold eqGuard; simp
        simp only [execOp,ho,h1,h2,Sem.run_bind,Bool.false_eq_true,if_false,hg,Result.andThen_ok,binOp,heq,Sem.run_pure]
      . have hg : (eqGuard .neq t x y (.bool p) (.bool q)).run P w = .ok () w:=by unfold eqGuard; simp
        simp only [execOp,ho,h1,h2,Sem.run_bind,if_true,hg,Result.andThen_ok,binOp,heq,Sem.run_pure,bne]
    . exact h.elim
  have hstrs : ∀ neg : Bool,b = (if neg then .neq else .eql) -> P.underlying t = some .string -> pop P (.seq neg (cOpd x) (cOpd y)) e H K -> ∃ sv,K sv /\ Good P o e H sv:=by
    intro neg hb hu h
    simp only [pop] at h
    split at h
    . rename_i p q hx hy
      have h : K (.bool (if neg then decide (p ≠ q) else decide (p = q))):=by cases neg <;> exact h
      refine ⟨_,h,good_of fun w A β a hW hr=>⟨_,?_,.bool _ _⟩⟩
      have h1:=rep_str (eval_rep hr hxm hx)
      have h2:=rep_str (eval_rep hr hym hy)
      have heq:=str_beq p q
      subst hb
      cases neg
      . have hg : (eqGuard .eql t x y (.string ⟨p.toArray⟩) (.string ⟨q.toArray⟩)).run P w = .ok () w:=by unfold eqGuard; simp
        simp [execOp,ho,h1,h2,hg,binOp,Op.stringOp]
        rw [Bool.eq_iff_iff]; simp
      . have hg : (eqGuard .neq t x y (.string ⟨p.toArray⟩) (.string ⟨q.toArray⟩)).run P w = .ok () w:=by unfold eqGuard; simp
        simp [execOp,ho,h1,h2,hg,binOp,Op.stringOp]
        rw [Bool.eq_iff_iff]; simp
    . exact h.elim
  have haggs : ∀ neg : Bool,b = (if neg then .neq else .eql) -> pop P (.eqv neg t (cOpd x) (cOpd y)) e H K -> ∃ sv,K sv /\ Good P o e H sv:=by
    intro neg hb h
    simp only [pop] at h
    split at h
    . rename_i fs gs hx hy
      obtain ⟨c,hok,hK⟩:=h
      refine ⟨_,hK,good_of fun w A β a hW hr=>⟨.bool c,?_,.bool _ _⟩⟩
      have:=hok w A β _ _ x y (eval_rep hr hxm hx) (eval_rep hr hym hy)
      subst hb
      simp only [execOp,ho,Sem.run_bind] at this ⊢
      rw [this]
      rfl
    . exact h.elim
  have hnil : ∀ (neg : Bool) (el : TypeId),b = (if neg then .neq else .eql) -> P.underlying t = some (.slice el) -> isNilS y = true -> pop P (.isn neg (cOpd x)) e H K -> ∃ sv,K sv /\ Good P o e H sv:=by
    intro neg el hb hu hy h
    have hyv : ∀ a : Act,a.eval y = .slice none 0 0:=by
      intro a
      unfold isNilS at hy
      split at hy
      . rfl
      . cases hy
    have run : ∀ (w : World) (a : Act) (ad : Option Addr) (n c : Nat),a.eval x = .slice ad n c -> (execOp a.eval o).run P w = .ok (.value (.bool (if neg then !ad.isNone else ad.isNone))) w:=by
      intro w a ad n c hx
      have heq:=run_equal_slice_nil (P:=P) w t el ad n c hu
      subst hb
      cases neg
      . have hg : (eqGuard .eql t x y (.slice ad n c) (.slice none 0 0)).run P w = .ok () w:=by unfold eqGuard; simp
        simp only [execOp,ho,hx,hyv,Sem.run_bind,Bool.false_eq_true,if_false,hg,Result.andThen_ok,binOp,heq,Sem.run_pure]
      . have hg : (eqGuard .neq t x y (.slice ad n c) (.slice none 0 0)).run P w = .ok () w:=by unfold eqGuard; simp
        simp only [execOp,ho,hx,hyv,Sem.run_bind,if_true,hg,Result.andThen_ok,binOp,heq,Sem.run_pure]
    simp only [pop] at h
    split at h
    . rename_i wd xs hx
      by_cases hxs : xs = []
      . refine ⟨_,h.2 hxs,good_of fun w A β a hW hr=>?_⟩
        have hrep:=eval_rep hr hxm hx
        generalize hav : a.eval x = v at hrep
        cases hrep with
        | slcZ=>exact ⟨_,run w a _ _ _ hav,.anyb _ _⟩
        | slc=>exact ⟨_,run w a _ _ _ hav,.anyb _ _⟩
      . refine ⟨_,h.1 hxs,good_of fun w A β a hW hr=>?_⟩
        have hrep:=eval_rep hr hxm hx
        generalize hav : a.eval x = v at hrep
        cases hrep with
        | slcZ=>exact absurd rfl hxs
        | slc=>exact ⟨_,run w a _ _ _ hav,by cases neg <;> exact .bool _ _⟩
    . rename_i k wd i n hx
      by_cases hn : n = 0
      . refine ⟨_,h.2 hn,good_of fun w A β a hW hr=>?_⟩
        have hrep:=eval_rep hr hxm hx
        generalize hav : a.eval x = v at hrep
        cases hrep with
        | oslZ=>exact ⟨_,run w a _ _ _ hav,.anyb _ _⟩
        | osl=>exact ⟨_,run w a _ _ _ hav,.anyb _ _⟩
      . refine ⟨_,h.1 hn,good_of fun w A β a hW hr=>?_⟩
        have hrep:=eval_rep hr hxm hx
        generalize hav : a.eval x = v at hrep
        cases hrep with
        | oslZ=>exact absurd rfl hn
        | osl=>exact ⟨_,run w a _ _ _ hav,by cases neg <;> exact .bool _ _⟩
    . rename_i hx
      refine ⟨_,h,good_of fun w A β a hW hr=>?_⟩
      have hrep:=eval_rep hr hxm hx
      generalize hav : a.eval x = v at hrep
      cases hrep
      exact ⟨_,run w a _ _ _ hav,.anyb _ _⟩
    . exact h.elim
  simp only [cop,ho] at hc
  split at hc
  . rename_i hu; cases hc; exact hbools false rfl hu h
  . rename_i hu; cases hc; exact hbools true rfl hu h
  . rename_i hu; cases hc; exact hstrs false rfl hu h
  . rename_i hu; cases hc; exact hstrs true rfl hu h
  . cases hc; exact haggs false rfl h
  . cases hc; exact haggs false rfl h
  . cases hc; exact haggs true rfl h
  . cases hc; exact haggs true rfl h
  . rename_i el hu
    split at hc
    . rename_i hy; cases hc; exact hnil false el rfl hu hy h
    . cases hc; exact oth_good h
  . rename_i el hu
    split at hc
    . rename_i hy; cases hc; exact hnil true el rfl hu hy h
    . cases hc; exact oth_good h
  . cases hc; exact hints ho h
  . cases hc; exact oth_good h
theorem frzs_reps {w : World} {A : Nat -> Prop} {β : List (Option Nat)} {H : List Blk} {as : List SV} {vs : List Value} {K : List SV -> Prop} (h : frzs (frzK 4 H) as K) (hW : WB w A β H) (hr : Reps w A β as vs) : ∃ ys,K ys /\ Reps w (fun b=>A b /\ some b ∉ β) [] ys vs:=by
  obtain ⟨ys,hK,hl,hys⟩:=frzs_sound (frzK_sound 4) as _ h
  exact ⟨ys,hK,by rw [hl]; exact hr.1,frz_list hl hys hW (fun b hb=>hb.1) (fun k b _ hk _ _ hb=>hb.2 (List.mem_of_getElem? hk)) hr.2⟩
theorem call_good {o : Oper} {c : Call} {f : Operand} (ho : o.op = .call c) (hf : c.callee = .value f) {e : Env} {H : List Blk} {K : SV → Prop} (h : pop P (.call (cOpd f) (c.args.toList.map cOpd)) e H K) : ∃ sv, K sv ∧ Good P o e H sv := by
  simp only [pop] at h
  split at h
  . rename_i g pre caps hfn
    -- the arguments and the call
    have args : ∀ (w : World) (A : Nat -> Prop) (β : List (Option Nat)) (a : Act),(∀ t,Operand.tmp t ∈ o.op.operands -> Rep w A β (look e t) (a.tmps.getD t undef)) ->
        ∃ vs,Reps w A β (pre ++ c.args.toList.map (fun x=>ev e (cOpd x)) ++ caps) vs /\ ((∀ vs w,(callFunc g vs).run P w = .ok (.enter g vs) w) -> (execOp a.eval o).run P w = .ok (.enter g vs.toArray) w):=fun w A β a hr=>by
      have hr' : ∀ x,x ∈ o.op.operands -> Rep w A β (ev e (cOpd x)) (a.eval x):=fun x hx=>ev_rep x fun t ht=>hr t (ht ▸ hx)
      have hfrep:=hr' f (by simp [ho,Op.operands,Call.operands,hf])
      obtain ⟨us,vs,hav,hus,hvs⟩:=fnsOf_rep hfn hfrep
      have hargs:=map_reps (e:=e) (a:=a) c.args.toList fun x hx=>hr' x (by simp [ho,Op.operands,Call.operands,hf]; exact .inr (by simpa using hx))
      refine ⟨_,reps_append (reps_append hus (by simpa [Function.comp_def] using hargs)) hvs,fun hFS=>?_⟩
      simp only [execOp,ho,resolve,hf,hav,Deferred.ofValue,Sem.run_bind,Sem.run_pure,Result.andThen_ok,invoke]
      have : (us.toArray ++ c.args.map a.eval ++ vs.toArray) = (us ++ c.args.toList.map a.eval ++ vs).toArray:=by
        apply Array.ext'; simp
      rw [this]
      exact hFS _ _
    rw [List.map_map] at h
    rcases h with ⟨hp,res,hFS,hK⟩ | h
    . refine ⟨res,hK,fun w A β a hA hW hr=>?_⟩
      obtain ⟨vs,hall,hrun⟩:=args w A β a hr
      have hall:=reps_purely hall hp []
      unfold rel
      rw [hrun hFS.1]
      refine (hFS.2 w A _ hA hall.1 hall.2).mono ?_
      rintro e' w' ⟨v,rfl,hb,hrep⟩
      exact ⟨v,rfl,hb,hrep.more _ fun k b h=>by simp at h⟩
    . obtain ⟨ys,⟨res,hFS,hlo,hK⟩,hl,hys⟩:=frzs_sound (frzK_sound 4) _ _ h
      refine ⟨res,hK,fun w A β a hA hW hr=>?_⟩
      obtain ⟨vs,hall,hrun⟩:=args w A β a hr
      have hz:=frz_list (A1:=fun b=>A b /\ some b ∉ β) hl hys hW (fun b hb=>hb.1) (fun k b _ hk _ _ hb=>hb.2 (List.mem_of_getElem? hk)) hall.2
      unfold rel
      rw [hrun hFS.1]
      refine (hFS.2 w _ _ (fun b hb=>hA b hb.1) (hall.1.trans hl.symm) hz).mono ?_
      rintro e' w' ⟨v,rfl,hb,hrep⟩
      exact ⟨v,rfl,hb,(hrep.loosely hlo _).more _ fun k b h=>by simp at h⟩
  . exact h.elim
theorem slc_part {w : World} {A : Nat → Prop} {β : List (Option Nat)} {wd b off cap cap' l hh : Nat} {xs : List (List SV)} {vs : Nat → Value} (hmem : Mem w A b off wd xs vs) (hcs : ∀ (i : Nat) (x : List SV) (j : Nat) (c : SV), xs[i]? = some x → x[j]? = some c → Rep w A [] c (vs (off + i * wd + j))) (h1 : l ≤ hh) (h2 : hh ≤ xs.length) (h3 : hh ≤ cap') (_ : cap' ≤ cap) :
    Rep w A β (.slc wd ((xs.take hh).drop l)) (.slice (if cap' = l then some ⟨b,off,none⟩ else (some (⟨b,off,none⟩ : Addr)).map (·.add (l * wd))) (hh - l) (cap' - l)):=by
  by_cases hcl : cap' = l
  . rw [if_pos hcl]
    have e1 : hh - l = 0:=by omega
    have e2 : cap' - l = 0:=by omega
    have e3 : (xs.take hh).drop l = []:=by apply List.drop_eq_nil_of_le; simp; omega
    rw [e1,e2,e3]
    exact .slcZ _ _ _
  . rw [if_neg hcl]
    have hlen : ((xs.take hh).drop l).length = hh - l:=by simp; omega
    have hget : ∀ (i : Nat) (y : List SV),((xs.take hh).drop l)[i]? = some y -> xs[l + i]? = some y:=fun i y hy=>by
      rw [List.getElem?_drop] at hy
      have:=(List.getElem?_eq_some_iff.1 hy).1
      simp only [List.length_take] at this
      rwa [List.getElem?_take_of_lt (by omega)] at hy
    have:=Rep.slc (w:=w) (A:=A) β wd ((xs.take hh).drop l) b (off + l * wd) (cap' - l) vs ⟨by
        obtain ⟨cs,T,fr,hb,hcell⟩:=hmem.blk
        refine ⟨cs,T,fr,hb,fun i y j hy hj=>?_⟩
        have:=hcell _ y j (hget i y hy) hj
        rw [Nat.add_mul,<- Nat.add_assoc] at this
        exact this,hmem.away,fun i y hy=>hmem.len _ y (hget i y hy)⟩ (by rw [hlen]; omega) fun i y j c hy hj=>by
        have:=hcs _ y j c (hget i y hy) hj
        rw [Nat.add_mul,<- Nat.add_assoc] at this
        exact this
    rw [hlen] at this
    simpa [addr_add] using this
theorem sl_good {o : Oper} {t : TypeId} {x : Operand} {lo hi mx : Option Operand} (ho : o.op = .slice t x lo hi mx) {el : TypeId} (hu : P.underlying t = some (.slice el)) {s : Nat} (hs : szOf P el = some s) {e : Env} {H : List Blk} {K : SV -> Prop}
    (h : pop P (.sl s (cOpd x) (lo.map cOpd) (hi.map cOpd) (mx.map cOpd)) e H K) : ∃ sv,K sv /\ Good P o e H sv:=by
  have hxm : x ∈ o.op.operands:=by simp [ho,Op.operands]
  have hlm : ∀ y,lo = some y -> y ∈ o.op.operands:=fun y hy=>by simp [ho,Op.operands,hy]
  have hhm : ∀ y,hi = some y -> y ∈ o.op.operands:=fun y hy=>by simp [ho,Op.operands,hy]
  have hmm : ∀ y,mx = some y -> y ∈ o.op.operands:=fun y hy=>by simp [ho,Op.operands,hy]
  have lowEx : ∀ {K' : Int -> Prop},lowK e (lo.map cOpd) K' -> ∃ l,K' l /\ ∀ (w : World) (A : Nat -> Prop) (β : List (Option Nat)) (a : Act),(∀ x,x ∈ o.op.operands -> Rep w A β (ev e (cOpd x)) (a.eval x)) -> ∀ (y : Nat) (c : BoundsCode),0 <= l -> l <= y ->
      (match (lo.map a.eval) with | some v=>Instr.sliceBound v y c | none=>pure 0).run P w = .ok l.toNat w:=by
    intro K' h
    unfold lowK at h
    cases lo with
    | none=>exact ⟨0,h,fun w A β a hr y c _ _=>by simp⟩
    | some y =>
      simp only [Option.map_some] at h
      obtain ⟨k,z,hz,h⟩:=asI_ex h
      refine ⟨z,h,fun w A β a hr n c h0 h1=>?_⟩
      have:=rep_int (eval_rep hr (hlm y rfl) hz)
      simp [Instr.sliceBound,this,asIntOf,h0,h1]
  have highEx : ∀ {n : Nat} {K' : Int -> Prop},highK e n (hi.map cOpd) K' -> ∃ l,K' l /\ ∀ (w : World) (A : Nat -> Prop) (β : List (Option Nat)) (a : Act),(∀ x,x ∈ o.op.operands -> Rep w A β (ev e (cOpd x)) (a.eval x)) -> ∀ (y : Nat) (c : BoundsCode),0 <= l -> l <= y ->
      (match (hi.map a.eval) with | some v=>Instr.sliceBound v y c | none=>pure n).run P w = .ok l.toNat w:=by
    intro n K' h
    unfold highK at h
    cases hi with
    | none=>exact ⟨n,h,fun w A β a hr y c _ _=>by simp⟩
    | some y =>
      simp only [Option.map_some] at h
      obtain ⟨k,z,hz,h⟩:=asI_ex h
      refine ⟨z,h,fun w A β a hr n c h0 h1=>?_⟩
      have:=rep_int (eval_rep hr (hhm y rfl) hz)
      simp [Instr.sliceBound,this,asIntOf,h0,h1]
  -- the bounds, without a third one
  have bounds : ∀ {w : World} {a : Act} {len cap l hh : Nat},mx = none -> (∀ (y : Nat) (c : BoundsCode),hh <= y -> (match (hi.map a.eval) with | some v=>Instr.sliceBound v y c | none=>pure len).run P w = .ok hh w) ->
      (∀ (y : Nat) (c : BoundsCode),l <= y -> (match (lo.map a.eval) with | some v=>Instr.sliceBound v y c | none=>pure 0).run P w = .ok l w) -> l <= hh -> hh <= cap -> ∀ ad : Option Addr,a.eval x = .slice ad len cap ->
      (execOp a.eval o).run P w = .ok (.value (.slice (if cap = l then ad else ad.map (·.add (l * s))) (hh - l) (cap - l))) w:=by
    intro w a len cap l hh hmx h1 h2 h3 h4 ad he
    subst hmx
    have h1:=h1 cap .sliceAcap h4
    have h2:=h2 hh .sliceB h3
    have hb : (Instr.sliceBounds true len cap (lo.map a.eval) (hi.map a.eval) none).run P w = .ok (l,hh,cap) w:=by
      unfold Instr.sliceBounds
      simp only [Sem.run_bind,Sem.run_pure,Result.andThen_ok]
      cases hhi : hi.map a.eval <;> cases hlo : lo.map a.eval <;> simp only [hhi,hlo] at h1 h2 ⊢ <;> simp_all
    simp only [execOp,ho,Instr.sliceAt,Sem.run_bind,run_under hu,Result.andThen_ok,he,Instr.slice,Option.map_none,hb,run_size hs,Sem.run_pure]
  simp only [pop,slK] at h
  split at h
  · -- three bounds, the last two 0
    rename_i m hm
    cases hmx : mx with
    | none=>simp [hmx] at hm
    | some my =>
      simp only [hmx,Option.map_some,Option.some.injEq] at hm
      subst hm
      obtain ⟨km,zm,hzm,h⟩:=asI_ex h
      have three : ∀ hy,hi = some hy -> lo = none -> asI (ev e (cOpd hy)) (fun h=>h = 0 /\ zm = 0 /\ K .nils) -> (∀ (w : World) (A : Nat -> Prop) (β : List (Option Nat)) (v : Value),Rep w A β (ev e (cOpd x)) v -> ∃ ad n c,v = .slice ad n c) -> ∃ sv,K sv /\ Good P o e H sv:=by
        intro hy hhi hlo h hsl
        obtain ⟨kh,zh,hzh,rfl,rfl,hK⟩:=asI_ex h
        refine ⟨_,hK,good_of fun w A β a hW hr=>?_⟩
        have h1:=rep_int (eval_rep hr (hhm hy hhi) hzh)
        have h2:=rep_int (eval_rep hr (hmm my hmx) hzm)
        obtain ⟨ad,n,c,hav⟩:=hsl w A β _ (hr x hxm)
        refine ⟨.slice ad 0 0,?_,.nils _ _⟩
        simp [execOp,ho,Instr.sliceAt,run_under hu,hav,Instr.slice,hlo,hhi,hmx,h1,h2,Instr.sliceBounds,Instr.sliceBound,asIntOf,run_size hs]
      split at h
      case h_1 =>
        rename_i lo' hi' wd' xs hlo' hhi' hx'
        cases hlo : lo with
        | none=>simp [hlo] at hlo'
        | some ly =>
        cases hhi : hi with
        | none=>simp [hhi] at hhi'
        | some hy =>
        simp only [hlo,Option.map_some,Option.some.injEq] at hlo'
        simp only [hhi,Option.map_some,Option.some.injEq] at hhi'
        subst hlo' hhi'
        obtain ⟨kl,zl,hzl,h⟩:=asI_ex h
        obtain ⟨kh,zh,hzh,rfl,h0,h1,h2,h3,hK⟩:=asI_ex h
        refine ⟨_,hK,good_of fun w A β a hW hr=>?_⟩
        have r1:=rep_int (eval_rep hr (hlm ly hlo) hzl)
        have r2:=rep_int (eval_rep hr (hhm hy hhi) hzh)
        have r3:=rep_int (eval_rep hr (hmm my hmx) hzm)
        have hrep:=eval_rep hr hxm hx'
        have run : ∀ ad n c,xs.length <= c -> a.eval x = .slice ad n c -> (execOp a.eval o).run P w = .ok (.value (.slice (if zm.toNat = zl.toNat then ad else ad.map (·.add (zl.toNat * wd'))) (zh.toNat - zl.toNat) (zm.toNat - zl.toNat))) w:=by
          intro ad n c hc hav
          have b1 : (0 : Int) <= zm /\ zm <= (c : Int):=by omega
          have b2 : (0 : Int) <= zh /\ zh <= (zm.toNat : Int):=by omega
          have b3 : (0 : Int) <= zl /\ zl <= (zh.toNat : Int):=by omega
          simp [execOp,ho,Instr.sliceAt,run_under hu,hav,Instr.slice,hlo,hhi,hmx,r1,r2,r3,Instr.sliceBounds,Instr.sliceBound,asIntOf,run_size hs,b1,b2,b3]
          rw [if_pos (by omega),if_pos (by omega)]
        generalize hav : a.eval x = v at hrep
        cases hrep with
        | slcZ _ _ ad =>
          simp only [List.length_nil] at h3
          refine ⟨_,run ad 0 0 (by simp) hav,?_⟩
          have e1 : zh.toNat - zl.toNat = 0:=by omega
          have e2 : zm.toNat - zl.toNat = 0:=by omega
          rw [e1,e2]
          simp only [List.take_nil,List.drop_nil]
          exact .slcZ _ _ _
        | slc _ _ _ b off cap vs hmem hcap hcs =>
          exact ⟨_,run _ _ _ hcap hav,slc_part hmem hcs (by omega) (by omega) (by omega) (show zm.toNat <= xs.length by omega)⟩
      all_goals first | exact h.elim | skip
      all_goals
        rename_i hy hl' hh' hx'
        cases hhi : hi with
        | none=>simp [hhi] at hh'
        | some hy' =>
          cases hlo : lo with
          | some l=>simp [hlo] at hl'
          | none =>
            simp only [hhi,Option.map_some,Option.some.injEq] at hh'
            subst hh'
            refine three hy' hhi hlo h fun w A β v hv=>?_
            rw [hx'] at hv
            cases hv <;> exact ⟨_,_,_,rfl⟩
  . rename_i hm
    have hmx : mx = none:=by cases mx <;> simp at hm ⊢
    split at h
    . rename_i wd xs he
      obtain ⟨rfl,h⟩:=h
      obtain ⟨l,h,hlo⟩:=lowEx h
      obtain ⟨hh,⟨h0,h1,h2,hK⟩,hhi⟩:=highEx h
      refine ⟨_,hK,good_of fun w A β a hW hr=>?_⟩
      have hrep:=eval_rep hr hxm he
      generalize hav : a.eval x = v at hrep
      cases hrep with
      | slcZ _ _ ad =>
        simp only [List.length_nil] at h2
        have e1 : l = 0:=by omega
        have e2 : hh = 0:=by omega
        subst e1 e2
        refine ⟨_,bounds hmx (fun y c hy=>hhi w A β a hr y c (by omega) (by omega)) (fun y c hy=>hlo w A β a hr y c (by omega) (by omega)) (by omega) (by omega) ad hav,?_⟩
        simp; exact .slcZ _ _ _
      | slc _ _ _ b off cap vs hmem hcap hcs =>
        refine ⟨_,bounds hmx (fun y c hy=>hhi w A β a hr y c (by omega) (by omega)) (fun y c hy=>hlo w A β a hr y c (by omega) (by omega)) (by omega) (by omega) _ hav,?_⟩
        by_cases hcl : cap = l.toNat
        . rw [if_pos hcl]
          have e1 : hh.toNat - l.toNat = 0:=by omega
          have e2 : cap - l.toNat = 0:=by omega
          have e3 : (xs.take hh.toNat).drop l.toNat = []:=by apply List.drop_eq_nil_of_le; simp; omega
          rw [e1,e2,e3]
          exact .slcZ _ _ _
        . rw [if_neg hcl]
          have hlen : ((xs.take hh.toNat).drop l.toNat).length = hh.toNat - l.toNat:=by simp; omega
          have hget : ∀ (i : Nat) (y : List SV),((xs.take hh.toNat).drop l.toNat)[i]? = some y -> xs[l.toNat + i]? = some y:=fun i y hy=>by
            rw [List.getElem?_drop] at hy
            have:=(List.getElem?_eq_some_iff.1 hy).1
            simp only [List.length_take] at this
            rwa [List.getElem?_take_of_lt (by omega)] at hy
          have:=Rep.slc (w:=w) (A:=A) β wd ((xs.take hh.toNat).drop l.toNat) b (off + l.toNat * wd) (cap - l.toNat) vs ⟨by
              obtain ⟨cs,T,fr,hb,hcell⟩:=hmem.blk
              refine ⟨cs,T,fr,hb,fun i y j hy hj=>?_⟩
              have:=hcell _ y j (hget i y hy) hj
              rw [Nat.add_mul,<- Nat.add_assoc] at this
              exact this,hmem.away,fun i y hy=>hmem.len _ y (hget i y hy)⟩ (by rw [hlen]; omega) fun i y j c hy hj=>by
              have:=hcs _ y j c (hget i y hy) hj
              rw [Nat.add_mul,<- Nat.add_assoc] at this
              exact this
          rw [hlen] at this
          simpa [addr_add] using this
    . rename_i k wd i n he
      obtain ⟨rfl,h⟩:=h
      obtain ⟨l,h,hlo⟩:=lowEx h
      obtain ⟨hh,⟨h0,h1,h2,hK⟩,hhi⟩:=highEx h
      refine ⟨_,hK,good_of fun w A β a hW hr=>?_⟩
      have hrep:=eval_rep hr hxm he
      generalize hav : a.eval x = v at hrep
      cases hrep with
      | oslZ _ _ _ _ ad =>
        have e1 : l = 0:=by omega
        have e2 : hh = 0:=by omega
        subst e1 e2
        refine ⟨_,bounds hmx (fun y c hy=>hhi w A β a hr y c (by omega) (by omega)) (fun y c hy=>hlo w A β a hr y c (by omega) (by omega)) (by omega) (by omega) ad hav,?_⟩
        simp; exact .oslZ _ _ _ _ _
      | osl _ _ _ _ _ b cap hk hcap hsz =>
        refine ⟨_,bounds hmx (fun y c hy=>hhi w A β a hr y c (by omega) (by omega)) (fun y c hy=>hlo w A β a hr y c (by omega) (by omega)) (by omega) (by omega) _ hav,?_⟩
        by_cases hcl : cap = l.toNat
        . rw [if_pos hcl]
          have e1 : hh.toNat - l.toNat = 0:=by omega
          have e2 : cap - l.toNat = 0:=by omega
          rw [e1,e2]
          exact .oslZ _ _ _ _ _
        . rw [if_neg hcl]
          have:=Rep.osl (w:=w) (A:=A) β k wd (i + l.toNat) (hh.toNat - l.toNat) b (cap - l.toNat) hk (by omega) (by
            obtain ⟨cs,T,fr,hb,hle⟩:=hsz
            exact ⟨cs,T,fr,hb,by rw [show i + l.toNat + (cap - l.toNat) = i + cap by omega]; exact hle⟩)
          rw [Nat.add_mul] at this
          simpa [addr_add] using this
    . rename_i he
      obtain ⟨l,h,hlo⟩:=lowEx h
      obtain ⟨hh,⟨rfl,rfl,hK⟩,hhi⟩:=highEx h
      refine ⟨_,hK,good_of fun w A β a hW hr=>?_⟩
      have hrep:=eval_rep hr hxm he
      generalize hav : a.eval x = v at hrep
      cases hrep
      rename_i ad
      refine ⟨_,bounds hmx (fun y c hy=>hhi w A β a hr y c (by omega) (by omega)) (fun y c hy=>hlo w A β a hr y c (by omega) (by omega)) (by omega) (by omega) ad hav,?_⟩
      simp; exact .nils _ _
    . exact h.elim
end
end
section
open Go.RowKit
section
variable {P : Program}
theorem mm_good {o : Oper} {c : Call} {mx : Bool} (ho : o.op = .call c) (hb : c.callee = .builtin (if mx then .max else .min)) {e : Env} {H : List Blk} {K : SV -> Prop} (h : pop P (.mm mx (c.args.toList.map cOpd)) e H K) : ∃ sv,K sv /\ Good P o e H sv:=by
  simp only [pop] at h
  cases hxs : c.args.toList with
  | nil=>simp [hxs] at h
  | cons x xs =>
    simp only [hxs,List.map_cons] at h
    have hmem : ∀ y ∈ c.args.toList,y ∈ o.op.operands:=fun y hy=>by simp [ho,Op.operands,Call.operands,hb]; simpa using hy
    cases hx : ev e (cOpd x) with
    | int k m =>
      simp only [hx] at h
      obtain ⟨sv,hK,_,hrun⟩:=mmK_sound mx e xs _ K h ⟨_,_,rfl⟩
      refine ⟨sv,hK,good_of fun w A β a hW hr=>?_⟩
      have h1:=rep_int (eval_rep hr (hmem x (by simp [hxs])) hx)
      obtain ⟨u,h2,h3⟩:=hrun w A β a _ (.int _ _ _) fun y hy=>hr y (hmem y (by simp [hxs,hy]))
      refine ⟨u,?_,h3⟩
      have hargs : (c.args.map a.eval).toList = .int k m::xs.map a.eval:=by simp [hxs,h1]
      cases mx
      . have hb : c.callee = .builtin .min:=hb
        have h2 : ((xs.map a.eval).foldlM Builtin.min2 (.int k m)).run P w = .ok u w:=h2
        simp only [execOp,ho,resolve,hb,Sem.run_bind,Sem.run_pure,Result.andThen_ok,invoke,builtin,Builtin.min_,hargs]
        rw [h2]; rfl
      . have hb : c.callee = .builtin .max:=hb
        have h2 : ((xs.map a.eval).foldlM Builtin.max2 (.int k m)).run P w = .ok u w:=h2
        simp only [execOp,ho,resolve,hb,Sem.run_bind,Sem.run_pure,Result.andThen_ok,invoke,builtin,Builtin.max_,hargs]
        rw [h2]; rfl
    | _=>simp [hx] at h
theorem ln_good {o : Oper} {c : Call} {x : Operand} (ho : o.op = .call c) (hb : c.callee = .builtin .len) (hx : c.args.toList = [x]) {el : TypeId} (ht : c.argTypes.toList.map P.underlying = [some (.slice el)]) {e : Env} {H : List Blk} {K : SV -> Prop}
    (h : pop P (.ln (cOpd x)) e H K) : ∃ sv,K sv /\ Good P o e H sv:=by
  obtain ⟨t,hts,hu⟩ : ∃ t,c.argTypes.toList = [t] /\ P.underlying t = some (.slice el):=by
    cases h : c.argTypes.toList with
    | nil=>simp [h] at ht
    | cons t l=>cases l <;> simp [h] at ht; exact ⟨t,rfl,ht⟩
  have ht' : c.argTypes = #[t]:=by apply Array.ext'; simpa using hts
  have hx' : c.args = #[x]:=by apply Array.ext'; simpa using hx
  have hxm : x ∈ o.op.operands:=by simp [ho,Op.operands,Call.operands,hb,hx']
  have run : ∀ {w : World} {a : Act} {ad : Option Addr} {n cp : Nat},a.eval x = .slice ad n cp -> (execOp a.eval o).run P w = .ok (.value (.int .i64 n)) w:=by
    intro w a ad n cp he
    simp [execOp,ho,resolve,hb,hx',ht',invoke,builtin,Builtin.len_,run_under hu,he,goInt]
  simp only [pop] at h
  split at h
  . rename_i wd xs he
    refine ⟨_,h,good_of fun w A β a hW hr=>?_⟩
    have hrep:=eval_rep hr hxm he
    generalize hav : a.eval x = v at hrep
    cases hrep
    . exact ⟨_,run hav,.int _ _ _⟩
    . exact ⟨_,run hav,.int _ _ _⟩
  . rename_i k wd i n he
    refine ⟨_,h,good_of fun w A β a hW hr=>?_⟩
    have hrep:=eval_rep hr hxm he
    generalize hav : a.eval x = v at hrep
    cases hrep
    . exact ⟨_,run hav,.int _ _ _⟩
    . exact ⟨_,run hav,.int _ _ _⟩
  . rename_i he
    refine ⟨_,h,good_of fun w A β a hW hr=>?_⟩
    have hrep:=eval_rep hr hxm he
    generalize hav : a.eval x = v at hrep
    cases hrep
    exact ⟨_,run hav,.int _ _ _⟩
  . exact h.elim
theorem lnA_good {o : Oper} {c : Call} {x : Operand} (ho : o.op = .call c) (hb : c.callee = .builtin .len) (hx : c.args.toList = [x]) {n : Nat} {el : TypeId} (ht : c.argTypes.toList.map P.underlying = [some (.array n el)]) {e : Env} {H : List Blk} {K : SV -> Prop}
    (h : pop P (.lnA n (cOpd x)) e H K) : ∃ sv,K sv /\ Good P o e H sv:=by
  obtain ⟨t,hts,hu⟩ : ∃ t,c.argTypes.toList = [t] /\ P.underlying t = some (.array n el):=by
    cases h : c.argTypes.toList with
    | nil=>simp [h] at ht
    | cons t l=>cases l <;> simp [h] at ht; exact ⟨t,rfl,ht⟩
  have ht' : c.argTypes = #[t]:=by apply Array.ext'; simpa using hts
  have hx' : c.args = #[x]:=by apply Array.ext'; simpa using hx
  refine ⟨_,h,good_of fun w A β a hW hr=>⟨.int .i64 n,?_,.int _ _ _⟩⟩
  simp [execOp,ho,resolve,hb,hx',ht',invoke,builtin,Builtin.len_,run_under hu,goInt]
theorem pop_sound {o : Oper} {op : IOp} {e : Env} {H : List Blk} {K : SV -> Prop} (hc : cop P o = some op) (h : pop P op e H K) : ∃ sv,K sv /\ Good P o e H sv:=by
  cases hop : o.op with
  | move x =>
    simp only [cop,hop,Option.some.injEq] at hc; subst hc
    exact ⟨_,h,good_of fun w A β a hW hr=>⟨a.eval x,by simp [execOp,hop],hr x (by simp [hop,Op.operands])⟩⟩
  | assign x =>
    simp only [cop,hop,Option.some.injEq] at hc; subst hc
    exact ⟨_,h,good_of fun w A β a hW hr=>⟨a.eval x,by simp [execOp,hop],hr x (by simp [hop,Op.operands])⟩⟩
  | pick c x y =>
    simp only [cop,hop,Option.some.injEq] at hc; subst hc
    simp only [pop] at h
    split at h
    . rename_i hb
      refine ⟨_,h,good_of fun w A β a hW hr=>⟨a.eval x,?_,hr x (by simp [hop,Op.operands])⟩⟩
      simp [execOp,hop,rep_bool (eval_rep hr (show c ∈ o.op.operands by simp [hop,Op.operands]) hb),asBool]
    . rename_i hb
      refine ⟨_,h,good_of fun w A β a hW hr=>⟨a.eval y,?_,hr y (by simp [hop,Op.operands])⟩⟩
      simp [execOp,hop,rep_bool (eval_rep hr (show c ∈ o.op.operands by simp [hop,Op.operands]) hb),asBool]
    . exact h.elim
  | nilCheck x =>
    simp only [cop,hop,Option.some.injEq] at hc; subst hc
    have hx : x ∈ o.op.operands:=by simp [hop,Op.operands]
    simp only [pop] at h
    split at h
    . rename_i he
      refine ⟨_,h,good_of fun w A β a hW hr=>⟨a.eval x,?_,eval_rep hr hx he⟩⟩
      have hrep:=eval_rep hr hx he
      generalize hav : a.eval x = v at hrep
      cases hrep
      simp [execOp,hop,hav]
    . rename_i he
      refine ⟨_,h,good_of fun w A β a hW hr=>⟨a.eval x,?_,eval_rep hr hx he⟩⟩
      have hrep:=eval_rep hr hx he
      generalize hav : a.eval x = v at hrep
      cases hrep
      simp [execOp,hop,hav]
    . rename_i he
      refine ⟨_,h,good_of fun w A β a hW hr=>⟨a.eval x,?_,eval_rep hr hx he⟩⟩
      have hrep:=eval_rep hr hx he
      generalize hav : a.eval x = v at hrep
      cases hrep
      simp [execOp,hop,hav]
    . rename_i he
      refine ⟨_,h,good_of fun w A β a hW hr=>⟨a.eval x,?_,eval_rep hr hx he⟩⟩
      have hrep:=eval_rep hr hx he
      generalize hav : a.eval x = v at hrep
      cases hrep
      simp [execOp,hop,hav]
    . exact h.elim
  | binOp b t x y yt=>exact bin_good hop hc h
  | unOp b t x =>
    simp only [cop,hop,Option.some.injEq] at hc; subst hc
    obtain ⟨sv,hK,hrun⟩:=unK_sound (P:=P) h
    refine ⟨sv,hK,good_of fun w A β a hW hr=>?_⟩
    obtain ⟨u,h1,h2⟩:=hrun w A β _ (hr x (by simp [hop,Op.operands]))
    exact ⟨u,by simp [execOp,hop,h1],h2⟩
  | convert s d x =>
    simp only [cop,hop] at hc
    split at hc
    . rename_i ds k hs hd
      cases hc
      obtain ⟨k',z,hz,z',hz',hK⟩:=asI_ex h
      refine ⟨_,hK,fun w A β a hA hW hr=>?_⟩
      have h1:=rep_int (eval_rep (fun x hx=>ev_rep x fun t ht=>hr t (ht ▸ hx)) (show x ∈ o.op.operands by simp [hop,Op.operands]) hz)
      refine rel_value (v:=.int k z') (w':=w) ?_ ⟨Belo.refl _ _,.int _ _ _⟩
      rw [hz'.eq]
      cases ds <;> simp [execOp,hop,convert,run_under hd,run_under hs,h1,Conv.intToInt]
    . cases hc; exact oth_good h
  | makeFunc f first caps =>
    simp only [cop,hop] at hc
    cases f with
    | func fid =>
      simp only at hc
      rcases hfl : first.toList with _ | ⟨x,_ | ⟨y,t⟩⟩
      . have hfs : first = #[]:=by apply Array.ext'; rw [hfl]
        rcases hbo : bOf (caps.toList.map cOpd) with _ | z
        . rw [hfl,hbo] at hc
          cases hc
          simp only [pop,hbo] at h
          refine ⟨_,h,good_of fun w A β a hW hr=>?_⟩
          have hm:=map_reps (e:=e) (a:=a) caps.toList fun x hx=>hr x (by simp [hop,Op.operands]; exact .inr (by simpa using hx))
          refine ⟨.func (.func fid) #[] (caps.toList.map a.eval).toArray,?_,.fn _ _ _ _ hm.1 hm.2⟩
          have hcs : caps.map a.eval = (caps.toList.map a.eval).toArray:=by apply Array.ext'; simp
          simp [execOp,hop,Instr.makeFunc,hfs,hcs]
        . rw [hfl,hbo] at hc
          cases hc
      . have hfs : first = #[x]:=by apply Array.ext'; rw [hfl]
        rcases hcl : caps.toList with _ | ⟨c,cs⟩
        . have hcs : caps = #[]:=by apply Array.ext'; rw [hcl]
          subst hcs
          rw [hfl] at hc
          cases hc
          obtain ⟨hp,h⟩ : (ev e (cOpd x)).pure = true /\ K (.mth fid (ev e (cOpd x))):=h
          refine ⟨_,h,good_of fun w A β a hW hr=>?_⟩
          have hr1:=hr x (by simp [hop,Op.operands,hfs])
          refine ⟨.func (.func fid) #[a.eval x] #[],?_,.mth _ _ _ _ (hr1.purely hp [])⟩
          simp [execOp,hop,Instr.makeFunc,hfs]
        . rw [hfl,hcl] at hc
          cases hc
      . rw [hfl] at hc
        cases hc
    | _=>cases hc; exact oth_good h
  | build t parts=>exact bld_good hop hc h
  | buildSlice t len parts=>exact bsl_good hop hc h
  | load t x=>exact ld_good hop hc h
  | fieldAddr t x i=>exact fa_good hop hc h
  | field t x i=>exact fd_good hop hc h
  | indexAddr t x i=>exact ia_good hop hc h
  | index t x i =>
    cases hu : P.underlying t with
    | none=>simp only [cop,hop,hu,Option.some.injEq] at hc; subst hc; exact oth_good h
    | some d =>
      cases d
      case array n el=>exact ix_good hop hu hc h
      all_goals (simp only [cop,hop,hu,Option.some.injEq] at hc; subst hc; exact oth_good h)
  | extract x i =>
    simp only [cop,hop,Option.some.injEq] at hc; subst hc
    simp only [pop] at h
    split at h
    . rename_i fs he
      split at h
      . rename_i f hf
        refine ⟨_,h,good_of fun w A β a hW hr=>?_⟩
        have hrep:=eval_rep hr (show x ∈ o.op.operands by simp [hop,Op.operands]) he
        generalize hav : a.eval x = v at hrep
        cases hrep with
        | tup _ _ vs hl hh =>
          have hi : i < vs.length:=by rw [hl]; exact (List.getElem?_eq_some_iff.1 hf).1
          exact ⟨vs[i],by simp [execOp,hop,hav,Instr.extract,hi],hh i f _ hf (by simp [hi])⟩
      . exact h.elim
    . exact h.elim
  | slice t x lo hi mx =>
    simp only [cop,hop] at hc
    split at hc
    . rename_i el hu
      obtain ⟨s,hs,rfl⟩:=Option.map_eq_some_iff.1 hc
      exact sl_good hop hu hs h
    . cases hc; exact oth_good h
  | call c =>
    simp only [cop,hop] at hc
    split at hc
    . rename_i f hf
      cases hc
      exact call_good hop hf h
    . cases hc; exact oth_good h
    . rename_i b hb
      split at hc
      . rename_i x el hx ht; cases hc; exact ln_good hop hb hx ht h
      . rename_i x n el hx ht; cases hc; exact lnA_good hop hb hx ht h
      . cases hc; exact mm_good (mx:=true) hop hb h
      . cases hc; exact mm_good (mx:=false) hop hb h
      . split at hc
        . split at hc
          . cases hc; simp [pop] at h
          . cases hc
        . cases hc
      . split at hc
        . split at hc
          . cases hc; simp [pop] at h
          . cases hc
        . cases hc
      . split at hc
        . split at hc
          . cases hc; simp [pop] at h
          . cases hc
        . cases hc
      . cases hc; exact oth_good h
  | alloc t =>
    simp only [cop,hop] at hc
    obtain ⟨z,hz,rfl⟩:=Option.map_eq_some_iff.1 hc
    simp [pop] at h
  | box t x=>simp only [cop,hop,Option.some.injEq] at hc; subst hc; simp [pop] at h
  | store t x y =>
    simp only [cop,hop] at hc
    obtain ⟨z,hz,rfl⟩:=Option.map_eq_some_iff.1 hc
    simp [pop] at h
  | makeSlice t l c =>
    simp only [cop,hop] at hc
    split at hc
    . split at hc
      . split at hc
        . cases hc; simp [pop] at h
        . cases hc
      . cases hc
    . cases hc
  | defer c=>simp [cop,hop] at hc
  | _=>simp only [cop,hop,Option.some.injEq] at hc; subst hc; exact oth_good h
end
end
section
open Go.RowKit
/-! ### Moved names -/
def SV.shift (m : Nat) : SV -> SV
  | .ptr k wd i j=>.ptr (m + k) wd i j
  | .osl k wd i n=>.osl (m + k) wd i n
  | .agg fs=>.agg (shiftL fs)
  | .tup fs=>.tup (shiftL fs)
  | .fn f fs=>.fn f (shiftL fs)
  | x=>x
where shiftL : List SV -> List SV
  | []=>[]
  | f::fs=>f.shift m::shiftL fs
theorem shiftL_get (k : Nat) : ∀ (fs : List SV) (i : Nat),(SV.shift.shiftL k fs)[i]? = (fs[i]?).map (SV.shift k)
  | [],i=>by simp [SV.shift.shiftL]
  | f::fs,0=>by simp [SV.shift.shiftL]
  | f::fs,i + 1=>by simp [SV.shift.shiftL,shiftL_get k fs i]
theorem shiftL_length (k : Nat) : ∀ fs : List SV,(SV.shift.shiftL k fs).length = fs.length
  | []=>rfl
  | f::fs=>by simp [SV.shift.shiftL,shiftL_length k fs]
theorem Rep.shift {w : World} {A : Nat -> Prop} {γ : List (Option Nat)} {x : SV} {v : Value} (h : Rep w A γ x v) : ∀ β : List (Option Nat),Rep w A (β ++ γ) (x.shift β.length) v:=by
  have hg : ∀ (β γ : List (Option Nat)) (k b : Nat),γ[k]? = some (some b) -> (β ++ γ)[β.length + k]? = some (some b):=fun β γ k b h=>by
    rw [List.getElem?_append_right (by omega),Nat.add_sub_cancel_left]; exact h
  induction h with
  | any β v=>exact fun _=>.any _ _
  | int=>exact fun _=>.int _ _ _
  | bool=>exact fun _=>.bool _ _
  | str=>exact fun _=>.str _ _
  | raw=>exact fun _=>.raw _ _
  | anyb=>exact fun _=>.anyb _ _
  | agg γ fs vs hl _ ih =>
    intro β
    refine .agg _ _ _ (by rw [shiftL_length]; exact hl) fun i f v h1 h2=>?_
    rw [shiftL_get] at h1
    obtain ⟨f',hf',rfl⟩:=Option.map_eq_some_iff.1 h1
    exact ih i f' v hf' h2 β
  | tup γ fs vs hl _ ih =>
    intro β
    refine .tup _ _ _ (by rw [shiftL_length]; exact hl) fun i f v h1 h2=>?_
    rw [shiftL_get] at h1
    obtain ⟨f',hf',rfl⟩:=Option.map_eq_some_iff.1 h1
    exact ih i f' v hf' h2 β
  | fn γ f fs vs hl _ ih =>
    intro β
    refine .fn _ _ _ _ (by rw [shiftL_length]; exact hl) fun i f v h1 h2=>?_
    rw [shiftL_get] at h1
    obtain ⟨f',hf',rfl⟩:=Option.map_eq_some_iff.1 h1
    exact ih i f' v hf' h2 β
  | nils=>exact fun _=>.nils _ _
  | slcZ=>exact fun _=>.slcZ _ _ _
  | slc γ wd xs b off cap vs hm hc h _=>exact fun _=>.slc _ _ _ _ _ _ vs hm hc h
  | box γ cells j0 b off vs hm h _=>exact fun _=>.box _ _ _ _ _ vs hm h
  | mth γ f x v h _=>exact fun _=>.mth _ _ _ _ h
  | ptr γ k wd i j b hk=>exact fun β=>.ptr _ _ _ _ _ _ (hg β _ _ _ hk)
  | oslZ=>exact fun _=>.oslZ _ _ _ _ _
  | osl γ k wd i n b cap hk hc hs=>exact fun β=>.osl _ _ _ _ _ _ _ (hg β _ _ _ hk) hc hs
def Blk.shift (m : Nat) : Blk -> Blk
  | .vars cells=>.vars (SV.shift.shiftL m cells)
  | .shut _ _=>.dead
  | b=>b
theorem BlkRel.shift {w : World} {A : Nat -> Prop} {γ : List (Option Nat)} {o : Option Nat} {blk : Blk} (h : BlkRel w A γ o blk) (β : List (Option Nat)) : BlkRel w A (β ++ γ) o (blk.shift β.length):=by
  cases o with
  | none=>trivial
  | some b =>
    cases blk with
    | dead=>trivial
    | shut=>trivial
    | vars cells =>
      obtain ⟨cs,T,h1,h2,h3⟩:=h
      refine ⟨cs,T,h1,by rw [shiftL_length]; exact h2,fun j c v h4 h5=>?_⟩
      rw [shiftL_get] at h4
      obtain ⟨c',hc',rfl⟩:=Option.map_eq_some_iff.1 h4
      exact (h3 j c' v hc' h5).shift β
    | arr wd xs=>exact h
/-! ### Contracts -/
def FO (P : Program) (f : FuncId) (args : List SV) (res : SV) (Hn : List Blk) : Prop :=
  (∀ vs w,(callFunc f vs).run P w = .ok (.enter f vs) w) /\
  ∀ (w : World) (A : Nat → Prop) (vs : List Value), (∀ b, A b → b < w.heap.size) → Reps w A [] args vs →
    Calls P f vs.toArray w fun e w'=>∃ (v : Value) (γ : List (Option Nat)),e = .returned v /\ Belo w.heap.size w w' /\ WRel w' (fun b=>A b \/ some b ∈ γ) γ Hn /\ (∀ b,some b ∈ γ -> w.heap.size <= b) /\ Rep w' (fun b=>A b \/ some b ∈ γ) γ res v
structure Frm (β : List (Option Nat)) (w w' : World) : Prop where
  os : w'.os = w.os
  tape : w'.tape = w.tape
  output : w'.output = w.output
  drn : w.drawn <= w'.drawn
  size : w.heap.size <= w'.heap.size
  keep : ∀ b,b < w.heap.size -> some b ∉ β -> w'.heap[b]? = w.heap[b]?
  shp : ∀ (b : Nat) (cs : Array Value) (T : TypeId) (fr : Nat × Nat),w.heap[b]? = some (.cells cs T fr) -> ∃ (cs' : Array Value) (fr' : Nat × Nat),w'.heap[b]? = some (.cells cs' T fr') /\ cs'.size = cs.size
def HS (P : Program) (f : FuncId) (args : List SV) (H : List Blk) (res : SV) (H' : List Blk) (ks : List Nat) : Prop :=
  (∀ vs w,(callFunc f vs).run P w = .ok (.enter f vs) w) /\
  ∀ (w : World) (A : Nat → Prop) (β : List (Option Nat)) (vs : List Value), (∀ b, A b → b < w.heap.size) → WRel w A β H → Reps w A β args vs →
    Calls P f vs.toArray w fun e w'=>∃ (v : Value) (A' : Nat -> Prop) (β' : List (Option Nat)),e = .returned v /\ Frm β w w' /\ (∀ b,A' b -> b < w'.heap.size) /\ WRel w' A' β' H' /\ (∀ b,b < w.heap.size -> (A' b ↔ A b)) /\
      (∀ (k b : Nat),β'[k]? = some (some b) -> b < w.heap.size -> some b ∈ β) /\ (∀ k,k < β.length -> k ∉ ks -> β'[k]? = β[k]?) /\ β.length <= β'.length /\ Rep w' A' β' res v
/-! ### What is to be shown -/
def killE (k : Nat) : Env -> Env
  | []=>[]
  | (t,v)::e=>(t,v.kill k)::killE k e
def killH (k : Nat) : List Blk -> List Blk
  | []=>[]
  | b::H=>b.kill k::killH k H
def killEs : List Nat -> Env -> Env
  | [],e=>e
  | k::ks,e=>killEs ks (killE k e)
def shiftH (m : Nat) : List Blk -> List Blk
  | []=>[]
  | b::H=>b.shift m::shiftH m H
def elemsK (wd : Nat) (H : List Blk) (y : SV) (K : List (List SV) → Prop) : Prop :=
  match y with
  | .nils=>K []
  | .slc wd' ys=>wd' = wd /\ K ys
  | .osl k wd' i n => match H[k]? with
    | some (.arr wd'' xs)=>wd' = wd /\ wd'' = wd /\ i + n <= xs.length /\ K ((xs.drop i).take n)
    | _=>False
  | _=>False
def frameK (P : Program) (M : Nat) (ks : List Nat) (g : FuncId) (as : List SV) (e : Env) (H : List Blk) (K : SV → Env → List Blk → Prop) : Prop :=
  match as with
  | .osl k wd i n :: rest => match H[k]? with
    | some (.arr wd' xs)=>(M <= k \/ k ∈ ks) /\ frzs (frzK 4 (H.set k .dead)) rest fun rest=>∃ res wd2 ys js,HS P g (.osl 0 wd i n::rest) [.arr wd' xs] res [.arr wd2 ys] js /\ SV.loose res = true /\ Blk.loose (.arr wd2 ys) /\ K (res.shift k) (killE k e) ((killH k H).set k (.arr wd2 ys))
    | _=>False
  | _=>False
def callK (P : Program) (M : Nat) (ks : List Nat) (g : FuncId) (as : List SV) (e : Env) (H : List Blk) (K : SV -> Env -> List Blk -> Prop) : Prop :=
  (SV.pure.pureL as = true /\ ∃ res,FS P g as res /\ K res e H) \/
  (SV.pure.pureL as = true /\ ∃ res Hn,FO P g as res Hn /\ K (res.shift H.length) e (H ++ shiftH H.length Hn)) \/
  (lendK P g as H fun res=>K res e H) \/
  (∃ res H' js,HS P g as H res H' js /\ (∀ j ∈ js,M <= j \/ j ∈ ks) /\ K res (killEs js e) H') \/
  (frzs (frzK 4 H) as fun as=>∃ res Hn,FO P g as res Hn /\ SV.loose res = true /\ (∀ b ∈ Hn,Blk.loose b) /\ K (res.shift H.length) e (H ++ shiftH H.length Hn)) \/
  frameK P M ks g as e H K
def xop (P : Program) (M : Nat) (ks : List Nat) (op : IOp) (e : Env) (H : List Blk) (K : SV → Env → List Blk → Prop) : Prop :=
  match op with
  | .al z=>K (.ptr H.length 0 0 0) e (H ++ [.vars z])
  | .bx x => match cellsOf (ev e x) with
    | some fs=>K (.ptr H.length 0 0 0) e (H ++ [.vars fs])
    | none=>False
  | .mk wd bytes z l c=>asI (ev e l) fun l=>asI (ev e c) fun c=>0 <= l /\ l <= c /\ (bytes : Int) * c <= 281474976710656 /\ c <= 9223372036854775807 /\ SV.pure.pureL z = true /\ K (.osl H.length wd 0 l.toNat) e (H ++ [.arr wd (List.replicate l.toNat z)])
  | .st s x v => match ev e x with
    | .ptr k wd i j => match cellsOf (ev e v) with
      | some fs => fs.length = s ∧ scalarL fs = true ∧ match H[k]? with
        | some (.vars cells)=>i * wd + j + s <= cells.length /\ K .any e (H.set k (.vars (splice cells (i * wd + j) fs)))
        | some (.arr wd' xs)=>wd' = wd /\ SV.pure.pureL fs = true /\ j + s <= wd /\ ∃ x,xs[i]? = some x /\ K .any e (H.set k (.arr wd (xs.set i (splice x j fs))))
        | _=>False
      | none=>False
    | _=>False
  | .ap wd bytes x y => elemsK wd H (ev e y) fun ys => match ev e x with
    | .osl k wd' i n => match H[k]? with
      | some (.arr wd'' xs)=>wd' = wd /\ wd'' = wd /\ i = 0 /\ n = xs.length /\ (M <= k \/ k ∈ ks) /\ (n + ys.length) * bytes <= 140737488355328 /\ n + ys.length <= 140737488355328 /\ (∀ y ∈ ys,scalarL y = true) /\
          K (.osl k wd 0 (n + ys.length)) (killE k e) ((killH k H).set k (.arr wd (xs ++ ys)))
      | _=>False
    | .nils=>ys.length * bytes <= 140737488355328 /\ ys.length <= 140737488355328 /\ (∀ y ∈ ys,scalarL y = true) /\ K (.osl H.length wd 0 ys.length) e (H ++ [.arr wd ys])
    | _=>False
  | .cp wd x y => elemsK wd H (ev e y) fun ys => match ev e x with
    | .osl k wd' i n => match H[k]? with
      | some (.arr wd'' xs)=>wd' = wd /\ wd'' = wd /\ i + n <= xs.length /\ (∀ y ∈ ys,scalarL y = true) /\ K (.int .i64 (min ys.length n : Nat)) e (H.set k (.arr wd (xs.take i ++ (ys.take n ++ xs.drop (i + min ys.length n)))))
      | _=>False
    | _=>False
  | .clr wd z x => match ev e x with
    | .osl k wd' i n => match H[k]? with
      | some (.arr wd'' xs)=>wd' = wd /\ wd'' = wd /\ i + n <= xs.length /\ SV.pure.pureL z = true /\ scalarL z = true /\ K (.tup []) e (H.set k (.arr wd (xs.take i ++ (List.replicate n z ++ xs.drop (i + n)))))
      | _=>False
    | _=>False
  | .call f args => match fnsOf (ev e f) with
    | some (g,pre,caps)=>callK P M ks g (pre ++ args.map (ev e) ++ caps) e H K
    | none=>False
  | op=>pop P op e H fun sv=>K sv e H
/-! ### The state -/
structure Cur (w0 : World) (A0 : Nat -> Prop) (β0 : List (Option Nat)) (M : Nat) (ks : List Nat) (w : World) (A : Nat -> Prop) (β : List (Option Nat)) (H : List Blk) : Prop where
  rel : WRel w A β H
  fin : ∀ b,A b -> b < w.heap.size
  frm : Frm β0 w0 w
  agree : ∀ b,b < w0.heap.size -> (A b ↔ A0 b)
  fresh : ∀ (k b : Nat),β[k]? = some (some b) -> b < w0.heap.size -> some b ∈ β0
  same : ∀ k,k < β0.length -> ¬ (M <= k \/ k ∈ ks) -> β[k]? = β0[k]?
  more : β0.length <= β.length
def EnvRel (w : World) (A : Nat -> Prop) (β : List (Option Nat)) (e : Env) (tmps : Array Value) : Prop:=∀ t,Rep w A β (look e t) (tmps.getD t undef)
theorem EnvRel.mono {w w' : World} {A A' : Nat -> Prop} {β γ : List (Option Nat)} {e : Env} {tmps : Array Value} (h : EnvRel w A β e tmps) (s : Stp A w w') (hA : ∀ b,b < w.heap.size -> A' b -> A b) (hg : ∀ (k b : Nat),β[k]? = some (some b) -> γ[k]? = some (some b)) : EnvRel w' A' γ e tmps :=
  fun t=>((h t).mono s hA).more γ hg
theorem look_kill (k : Nat) : ∀ (e : Env) (t : Nat),look (killE k e) t = (look e t).kill k
  | [],t=>rfl
  | (t', v) :: e, t => by
    simp only [killE,look]
    split
    . rfl
    . exact look_kill k e t
theorem EnvRel.kill {w w' : World} {A A' : Nat -> Prop} {β γ : List (Option Nat)} {e : Env} {tmps : Array Value} (h : EnvRel w A β e tmps) (s : Stp A w w') (hA : ∀ b,b < w.heap.size -> A' b -> A b) (k : Nat) (hg : ∀ (j b : Nat),j ≠ k -> β[j]? = some (some b) -> γ[j]? = some (some b)) : EnvRel w' A' γ (killE k e) tmps :=
  fun t=>by rw [look_kill]; exact ((h t).mono s hA).kill k γ hg
theorem EnvRel.put {w : World} {A : Nat -> Prop} {β : List (Option Nat)} {e : Env} {a : Act} {d : Option Nat} {sv : SV} {v : Value} (h : EnvRel w A β e a.tmps) (hd : ∀ t,d = some t -> t < a.tmps.size) (hr : Rep w A β sv v) : EnvRel w A β (setE e d sv) (a.put d v).tmps:=by
  cases d with
  | none=>exact h
  | some d =>
    intro t
    simp only [setE,look,Act.put]
    by_cases ht : d = t
    . subst ht
      simp only [if_true]
      have:=hd d rfl
      simpa [Array.getD,this] using hr
    . simp only [if_neg ht]
      have:=h t
      simpa [Array.getD_eq_getD_getElem?,Array.getElem?_setIfInBounds,ht] using this
theorem Frm.refl (β : List (Option Nat)) (w : World) : Frm β w w:=⟨rfl,rfl,rfl,Nat.le_refl _,Nat.le_refl _,fun _ _ _=>rfl,fun _ cs _ fr h=>⟨cs,fr,h,rfl⟩⟩
theorem Frm.step {β0 β : List (Option Nat)} {w0 w w' : World} (h : Frm β0 w0 w) (k : Frm β w w') (hf : ∀ (k b : Nat),β[k]? = some (some b) -> b < w0.heap.size -> some b ∈ β0) : Frm β0 w0 w' :=
  ⟨k.os.trans h.os,k.tape.trans h.tape,k.output.trans h.output,Nat.le_trans h.drn k.drn,Nat.le_trans h.size k.size,fun b hb hn=>(k.keep b (Nat.lt_of_lt_of_le hb h.size) fun hm=>by
      obtain ⟨i,hi,he⟩:=List.getElem_of_mem hm
      exact hn (hf i b (by simp [hi,he]) hb)).trans (h.keep b hb hn),fun b cs T fr hc=>by
    obtain ⟨cs1,fr1,h1,e1⟩:=h.shp b cs T fr hc
    obtain ⟨cs2,fr2,h2,e2⟩:=k.shp b cs1 T fr1 h1
    exact ⟨cs2,fr2,h2,e2.trans e1⟩⟩
theorem Frm.below {β : List (Option Nat)} {w w' : World} (h : Belo w.heap.size w w') : Frm β w w' :=
  ⟨h.os,h.tape,h.output,h.drn,h.size,fun b hb _=>h.block b hb,fun b cs T fr hc=>⟨cs,fr,by rw [h.block b (heap_lt hc)]; exact hc,rfl⟩⟩
theorem Frm.stp {A : Nat -> Prop} {β : List (Option Nat)} {w w' : World} (h : Frm β w w') (ho : ∀ (k b : Nat),β[k]? = some (some b) -> A b) : Stp A w w' :=
  ⟨h.os,h.tape,h.output,h.drn,h.size,fun b hb hn=>h.keep b hb fun hm=>by
    obtain ⟨i,hi,he⟩:=List.getElem_of_mem hm
    exact hn (ho i b (by simp [hi,he])),h.shp⟩
end
section
open Go.RowKit
section
variable {P : Program} {w0 : World} {A0 : Nat -> Prop} {β0 : List (Option Nat)} {M : Nat} {ks : List Nat} {w : World} {A : Nat -> Prop} {β : List (Option Nat)} {H : List Blk}
abbrev plus (A : Nat -> Prop) (b : Nat) : Nat -> Prop:=fun x=>A x \/ x = b
theorem Cur.own (h : Cur w0 A0 β0 M ks w A β H) : ∀ (k b : Nat),β[k]? = some (some b) -> A b:=fun k b hk=>(h.rel.own k b hk).1
theorem Cur.below {w1 : World} (h : Cur w0 A0 β0 M ks w A β H) (hb : Belo w.heap.size w w1) : Cur w0 A0 β0 M ks w1 A β H :=
  ⟨h.rel.step (Stp.below hb) fun k b hk=>hb.block b (h.rel.own k b hk).2,fun b ha=>Nat.lt_of_lt_of_le (h.fin b ha) hb.size,h.frm.step (Frm.below hb) h.fresh,h.agree,h.fresh,h.same,h.more⟩
theorem Cur.push {w1 : World} {b : Nat} {blk : Blk} (h : Cur w0 A0 β0 M ks w A β H) (hb : Belo w.heap.size w w1) (h1 : w.heap.size <= b) (h2 : b < w1.heap.size) (hblk : BlkRel w1 (plus A b) (β ++ [some b]) (some b) blk) :
    Cur w0 A0 β0 M ks w1 (plus A b) (β ++ [some b]) (H ++ [blk]):=by
  have hlt : ∀ (k c : Nat),β[k]? = some (some c) -> c < w.heap.size:=fun k c hk=>(h.rel.own k c hk).2
  have hkl : ∀ k,k < β.length -> (β ++ [some b])[k]? = β[k]?:=fun k hk=>List.getElem?_append_left hk
  have hkr : ∀ (k : Nat) (o : Option Nat),¬ k < β.length -> (β ++ [some b])[k]? = some o -> k = β.length /\ o = some b:=fun k o hk ho=>by
    rw [List.getElem?_append_right (by omega)] at ho
    have : k - β.length = 0:=by
      have:=(List.getElem?_eq_some_iff.1 ho).1
      simp at this; omega
    rw [this] at ho
    simp at ho
    exact ⟨by omega,ho.symm⟩
  have w0le:=h.frm.size
  refine ⟨⟨by simp [h.rel.len],fun k k' c hk hk'=>?_,fun k c hk=>?_,fun k o bk ho hbk=>?_⟩,fun c hc=>?_,h.frm.step (Frm.below hb) h.fresh,fun c hc=>?_,fun k c hk hc=>?_,fun k hk hn=>?_,by simp; have:=h.more; omega⟩
  . by_cases e : k < β.length <;> by_cases e' : k' < β.length
    . rw [hkl k e] at hk; rw [hkl k' e'] at hk'; exact h.rel.inj k k' c hk hk'
    . rw [hkl k e] at hk; obtain ⟨_,e2⟩:=hkr k' _ e' hk'; have:=hlt k c hk; simp at e2; omega
    . rw [hkl k' e'] at hk'; obtain ⟨_,e2⟩:=hkr k _ e hk; have:=hlt k' c hk'; simp at e2; omega
    . exact (hkr k _ e hk).1.trans (hkr k' _ e' hk').1.symm
  . by_cases e : k < β.length
    . rw [hkl k e] at hk; exact ⟨.inl (h.rel.own k c hk).1,Nat.lt_of_lt_of_le (hlt k c hk) hb.size⟩
    . obtain ⟨_,e2⟩:=hkr k _ e hk; simp at e2; subst e2; exact ⟨.inr rfl,h2⟩
  . by_cases e : k < β.length
    . rw [hkl k e] at ho
      rw [List.getElem?_append_left (by rw [<- h.rel.len]; exact e)] at hbk
      refine (h.rel.blk k o bk ho hbk).keep (Stp.below hb) (fun c hc ha=>ha.resolve_right (by omega)) (fun k' c hc=>?_) (fun c hc=>hb.block c (hlt k c (by rw [ho,hc])))
      rw [hkl k' (List.getElem?_eq_some_iff.1 hc).1]; exact hc
    . obtain ⟨e1,e2⟩:=hkr k _ e ho
      subst e1 e2
      rw [List.getElem?_append_right (by rw [h.rel.len]; exact Nat.le_refl _),h.rel.len] at hbk
      simp at hbk
      rw [<- hbk]; exact hblk
  . rcases hc with hc | rfl
    . exact Nat.lt_of_lt_of_le (h.fin c hc) hb.size
    . exact h2
  . constructor
    . intro hc'; exact (h.agree c hc).1 (hc'.resolve_right (by omega))
    . intro hc'; exact .inl ((h.agree c hc).2 hc')
  . by_cases e : k < β.length
    . rw [hkl k e] at hk; exact h.fresh k c hk hc
    . obtain ⟨_,e2⟩:=hkr k _ e hk; simp at e2; omega
  . have:=h.more
    rw [hkl k (by omega)]; exact h.same k hk hn
theorem Cur.nil {wd : Nat} (h : Cur w0 A0 β0 M ks w A β H) : Cur w0 A0 β0 M ks w A (β ++ [none]) (H ++ [.arr wd []]):=by
  have hkl : ∀ k,k < β.length -> (β ++ [none])[k]? = β[k]?:=fun k hk=>List.getElem?_append_left hk
  have hks : ∀ (k c : Nat),(β ++ [none])[k]? = some (some c) -> k < β.length /\ β[k]? = some (some c):=fun k c hk=>by
    by_cases e : k < β.length
    . rw [hkl k e] at hk; exact ⟨e,hk⟩
    . rw [List.getElem?_append_right (by omega)] at hk
      have:=(List.getElem?_eq_some_iff.1 hk).1
      simp at this
      have e0 : k - β.length = 0:=by omega
      rw [e0] at hk; simp at hk
  refine ⟨⟨by simp [h.rel.len],fun k k' c hk hk'=>h.rel.inj k k' c (hks k c hk).2 (hks k' c hk').2,fun k c hk=>h.rel.own k c (hks k c hk).2,fun k o bk ho hbk=>?_⟩,h.fin,h.frm,h.agree,fun k c hk hc=>h.fresh k c (hks k c hk).2 hc,fun k hk hn=>?_,by simp; have:=h.more; omega⟩
  . by_cases e : k < β.length
    . rw [hkl k e] at ho
      rw [List.getElem?_append_left (by rw [<- h.rel.len]; exact e)] at hbk
      refine (h.rel.blk k o bk ho hbk).keep (Stp.refl _ _) (fun _ _ h=>h) (fun k' c hc=>?_) (fun _ _=>rfl)
      rw [hkl k' (List.getElem?_eq_some_iff.1 hc).1]; exact hc
    . rw [List.getElem?_append_right (by omega)] at ho
      rw [List.getElem?_append_right (by rw [<- h.rel.len]; omega),<- h.rel.len] at hbk
      have:=(List.getElem?_eq_some_iff.1 ho).1
      simp at this
      have e0 : k - β.length = 0:=by omega
      rw [e0] at ho hbk
      simp at ho hbk
      rw [<- ho]; trivial
  . have:=h.more
    rw [hkl k (by omega)]; exact h.same k hk hn
theorem setRow_frm {b : Nat} {cs cs' : List Value} {T : TypeId} {fr : Nat × Nat} (hb : w.heap[b]? = some (.cells cs.toArray T fr)) (hl : cs'.length = cs.length) (k : Nat) (hk : β[k]? = some (some b)) : Frm β w (w.setRow b cs'.toArray) /\ ∀ c,c ≠ b -> (w.setRow b cs'.toArray).heap[c]? = w.heap[c]?:=by
  have hother : ∀ c,c ≠ b -> (w.setRow b cs'.toArray).heap[c]? = w.heap[c]?:=fun c hc=>by
    simp [World.setRow,Array.getElem?_modify,Ne.symm hc]
  refine ⟨⟨rfl,rfl,rfl,Nat.le_refl _,by simp [World.setRow],fun c _ hn=>hother c fun e=>hn (by subst e; exact List.mem_of_getElem? hk),fun c cs1 T1 fr1 h1=>?_⟩,hother⟩
  by_cases e : c = b
  . subst e
    rw [hb] at h1
    cases h1
    exact ⟨_,_,setRow_heap w c _ _ _ _ hb,by simp [hl]⟩
  . exact ⟨cs1,fr1,by rw [hother c e]; exact h1,rfl⟩
theorem Cur.set {k b : Nat} {cs cs' : List Value} {T : TypeId} {blk : Blk} (h : Cur w0 A0 β0 M ks w A β H) (hk : β[k]? = some (some b)) (hb : w.heap[b]? = some (.cells cs.toArray T (0,0))) (hl : cs'.length = cs.length)
    (hblk : BlkRel (w.setRow b cs'.toArray) A β (some b) blk) : Cur w0 A0 β0 M ks (w.setRow b cs'.toArray) A β (H.set k blk):=by
  obtain ⟨hf,hother⟩:=setRow_frm hb hl k hk
  have hstp:=hf.stp h.own
  have hkl : k < H.length:=by rw [<- h.rel.len]; exact (List.getElem?_eq_some_iff.1 hk).1
  refine ⟨⟨by simp [h.rel.len],h.rel.inj,fun k' c hc=>⟨(h.rel.own k' c hc).1,by have:=(h.rel.own k' c hc).2; simpa [World.setRow] using this⟩,fun k' o bk ho hbk=>?_⟩,fun c hc=>by simpa [World.setRow] using h.fin c hc,h.frm.step hf h.fresh,h.agree,h.fresh,h.same,h.more⟩
  by_cases e : k = k'
  . subst e
    rw [List.getElem?_set_self hkl] at hbk
    cases hbk
    rw [hk] at ho; cases ho
    exact hblk
  . rw [List.getElem?_set_ne e] at hbk
    refine (h.rel.blk k' o bk ho hbk).keep hstp (fun _ _ h=>h) (fun _ _ h=>h) fun c hc=>hother c fun e'=>e ?_
    subst hc e'
    exact h.rel.inj k k' c hk ho
theorem killH_get (k : Nat) : ∀ (H : List Blk) (i : Nat),(killH k H)[i]? = (H[i]?).map (Blk.kill k)
  | [],i=>by simp [killH]
  | b::H,0=>by simp [killH]
  | b::H,i + 1=>by simp [killH,killH_get k H i]
theorem killH_length (k : Nat) : ∀ H : List Blk,(killH k H).length = H.length
  | []=>rfl
  | b::H=>by simp [killH,killH_length k H]
theorem Cur.killed (h : Cur w0 A0 β0 M ks w A β H) (k : Nat) : Cur w0 A0 β0 M ks w A β (killH k H) :=
  ⟨⟨by rw [killH_length]; exact h.rel.len,h.rel.inj,h.rel.own,fun k' o bk ho hbk=>by
    rw [killH_get] at hbk
    obtain ⟨bk',hbk',rfl⟩:=Option.map_eq_some_iff.1 hbk
    exact (h.rel.blk k' o bk' ho hbk').killed (Stp.refl _ _) (fun _ _ h=>h) k (fun _ _ _ h=>h) (fun _ _=>rfl)⟩,h.fin,h.frm,h.agree,h.fresh,h.same,h.more⟩
theorem Cur.move {w1 : World} {k b : Nat} {blk : Blk} (h : Cur w0 A0 β0 M ks w A β H) (hkl : k < β.length) (hks : M <= k \/ k ∈ ks) (hb : Belo w.heap.size w w1) (h1 : w.heap.size <= b) (h2 : b < w1.heap.size)
    (hblk : BlkRel w1 (plus A b) (β.set k (some b)) (some b) blk) : Cur w0 A0 β0 M ks w1 (plus A b) (β.set k (some b)) ((killH k H).set k blk):=by
  have hlt : ∀ (k c : Nat),β[k]? = some (some c) -> c < w.heap.size:=fun k c hk=>(h.rel.own k c hk).2
  have hg : ∀ (j : Nat) (o : Option Nat),j ≠ k -> (β.set k (some b))[j]? = some o -> β[j]? = some o:=fun j o hj ho=>by rwa [List.getElem?_set_ne (Ne.symm hj)] at ho
  have hs : ∀ o : Option Nat,(β.set k (some b))[k]? = some o -> o = some b:=fun o ho=>by rw [List.getElem?_set_self hkl] at ho; exact (Option.some.inj ho).symm
  have w0le:=h.frm.size
  refine ⟨⟨by simp [killH_length,h.rel.len],fun i j c hi hj=>?_,fun i c hi=>?_,fun i o bk ho hbk=>?_⟩,fun c hc=>?_,h.frm.step (Frm.below hb) h.fresh,fun c hc=>?_,fun i c hi hc=>?_,fun i hi hn=>?_,by simpa using h.more⟩
  . by_cases e : i = k <;> by_cases e' : j = k
    . rw [e,e']
    . subst e
      have:=hs _ hi
      simp at this; subst this
      have:=hlt j c (hg j _ e' hj); omega
    . subst e'
      have:=hs _ hj
      simp at this; subst this
      have:=hlt i c (hg i _ e hi); omega
    . exact h.rel.inj i j c (hg i _ e hi) (hg j _ e' hj)
  . by_cases e : i = k
    . subst e
      have:=hs _ hi
      simp at this; subst this
      exact ⟨.inr rfl,h2⟩
    . exact ⟨.inl (h.rel.own i c (hg i _ e hi)).1,Nat.lt_of_lt_of_le (hlt i c (hg i _ e hi)) hb.size⟩
  . by_cases e : i = k
    . subst e
      rw [List.getElem?_set_self (by rw [killH_length,<- h.rel.len]; exact hkl)] at hbk
      cases hbk
      rw [hs o ho]; exact hblk
    . have ho':=hg i o e ho
      rw [List.getElem?_set_ne (Ne.symm e),killH_get] at hbk
      obtain ⟨bk',hbk',rfl⟩:=Option.map_eq_some_iff.1 hbk
      refine (h.rel.blk i o bk' ho' hbk').killed (Stp.below hb) (fun c hc ha=>ha.resolve_right (by omega)) k (fun j c hj hc=>?_) (fun c hc=>hb.block c (hlt i c (by rw [ho',hc])))
      rw [List.getElem?_set_ne (Ne.symm hj)]; exact hc
  . rcases hc with hc | rfl
    . exact Nat.lt_of_lt_of_le (h.fin c hc) hb.size
    . exact h2
  . exact ⟨fun hc'=>(h.agree c hc).1 (hc'.resolve_right (by omega)),fun hc'=>.inl ((h.agree c hc).2 hc')⟩
  . by_cases e : i = k
    . subst e
      have:=hs _ hi
      simp at this; omega
    . exact h.fresh i c (hg i _ e hi) hc
  . have hik : i ≠ k:=fun e=>by
      subst e
      exact hn hks
    rw [List.getElem?_set_ne (Ne.symm hik)]; exact h.same i hi hn
/-! ### What they do -/
def Then (K : SV -> Env -> List Blk -> Prop) (w0 : World) (A0 : Nat -> Prop) (β0 : List (Option Nat)) (M : Nat) (ks : List Nat) (tmps : Array Value) (v : Value) (w' : World) : Prop :=
  ∃ sv e' H' A' β',K sv e' H' /\ Cur w0 A0 β0 M ks w' A' β' H' /\ EnvRel w' A' β' e' tmps /\ Rep w' A' β' sv v
variable {o : Oper} {op : IOp} {e : Env} {K : SV -> Env -> List Blk -> Prop} {a : Act}
theorem plus_lt {b : Nat} (hb : w.heap.size <= b) : ∀ c,c < w.heap.size -> plus A b c -> A c:=fun c hc h=>h.resolve_right (by omega)
theorem append_get {β : List (Option Nat)} {γ : List (Option Nat)} : ∀ (k b : Nat),β[k]? = some (some b) -> (β ++ γ)[k]? = some (some b):=fun k b h=>by
  rw [List.getElem?_append_left (List.getElem?_eq_some_iff.1 h).1]; exact h
theorem al_rel {t : TypeId} (ho : o.op = .alloc t) {z : List SV} (hz : zeroOf P t = some z) (hK : K (.ptr H.length 0 0 0) e (H ++ [.vars z])) (hcur : Cur w0 A0 β0 M ks w A β H) (henv : EnvRel w A β e a.tmps) : rel P o a w (Then K w0 A0 β0 M ks a.tmps):=by
  obtain ⟨v,hv,hvz⟩:=run_zero (P:=P) hz
  subst hvz
  have hb : Belo w.heap.size w (w.alloc (.cells v.cells t)):=(Belo.refl _ _).alloc (Nat.le_refl _) _
  refine rel_value (w':=w.alloc (.cells v.cells t)) (v:=.pointer (some ⟨w.heap.size,0,none⟩)) ?run ⟨_,e,_,plus A w.heap.size,β ++ [some w.heap.size],hK,hcur.push hb (Nat.le_refl _) (by simp) ?blk,henv.mono (Stp.below hb) (plus_lt (Nat.le_refl _)) append_get,?rep⟩
  case run=>simp [execOp,ho,Instr.alloc,hv,newVar,newRow]
  case blk =>
    refine ⟨v.cells.toList,t,by simpa using World.alloc_heap_new _ _,by simp,fun j c u h1 h2=>?_⟩
    simp only [List.getElem?_map,h2,Option.map_some,Option.some.injEq] at h1
    exact h1 ▸ ofVal1_rep u
  case rep =>
    have:=Rep.ptr (w:=w.alloc (.cells v.cells t)) (A:=plus A w.heap.size) (β ++ [some w.heap.size]) H.length 0 0 0 w.heap.size (by rw [List.getElem?_append_right (by rw [hcur.rel.len]; exact Nat.le_refl _),hcur.rel.len]; simp)
    simpa using this
theorem bx_rel {t : TypeId} {x : Operand} (ho : o.op = .box t x) {fs : List SV} (hc : cellsOf (ev e (cOpd x)) = some fs) (hK : K (.ptr H.length 0 0 0) e (H ++ [.vars fs])) (hcur : Cur w0 A0 β0 M ks w A β H) (henv : EnvRel w A β e a.tmps) : rel P o a w (Then K w0 A0 β0 M ks a.tmps):=by
  have hf:=cellsOf_reps hc (ev_rep x fun t _=>henv t)
  have hb : Belo w.heap.size w (w.alloc (.cells (a.eval x).cells t)):=(Belo.refl _ _).alloc (Nat.le_refl _) _
  refine rel_value (w':=w.alloc (.cells (a.eval x).cells t)) (v:=.pointer (some ⟨w.heap.size,0,none⟩)) ?run ⟨_,e,_,plus A w.heap.size,β ++ [some w.heap.size],hK,hcur.push hb (Nat.le_refl _) (by simp) ?blk,henv.mono (Stp.below hb) (plus_lt (Nat.le_refl _)) append_get,?rep⟩
  case run=>simp [execOp,ho,Instr.box,newVar,newRow]
  case blk=>exact ⟨(a.eval x).cells.toList,t,by simpa using World.alloc_heap_new _ _,hf.1,fun j c u h1 h2=>((hf.2 j c u h1 h2).mono (Stp.below hb) (plus_lt (Nat.le_refl _))).more _ append_get⟩
  case rep =>
    have:=Rep.ptr (w:=w.alloc (.cells (a.eval x).cells t)) (A:=plus A w.heap.size) (β ++ [some w.heap.size]) H.length 0 0 0 w.heap.size (by rw [List.getElem?_append_right (by rw [hcur.rel.len]; exact Nat.le_refl _),hcur.rel.len]; simp)
    simpa using this
theorem mk_rel {t el : TypeId} {l c : Operand} (ho : o.op = .makeSlice t l c) (hu : P.underlying t = some (.slice el)) {i : TypeInfo} (hi : P.info? el = some i) {z : List SV} (hz : zeroOf P el = some z) (hzl : z.length = i.size) (hs0 : 0 < i.size)
    (h : xop P M ks (.mk i.size i.bytes z (cOpd l) (cOpd c)) e H K) (hcur : Cur w0 A0 β0 M ks w A β H) (henv : EnvRel w A β e a.tmps) : rel P o a w (Then K w0 A0 β0 M ks a.tmps):=by
  simp only [xop] at h
  obtain ⟨kl,lz,hl,h⟩:=asI_ex h
  obtain ⟨kc,cz,hc,h0,hlc,hbytes,h63,hp,hK⟩:=asI_ex h
  have h1:=rep_int (hl ▸ ev_rep l fun t _=>henv t)
  have h2:=rep_int (hc ▸ ev_rep c fun t _=>henv t)
  obtain ⟨v,hv,hvz⟩:=run_zero (P:=P) hz
  unfold zeroOf at hz
  obtain ⟨v',hv',_⟩:=Option.map_eq_some_iff.1 hz
  have hzi : i.zero = some v':=by simpa [hi] using hv'
  have hvv : v' = v:=by
    have:=hv w
    simp [zeroValue,run_typeInfo hi,hzi] at this
    exact this
  subst hvv
  subst hvz
  have hvs : v'.cells.size = i.size:=by rw [<- hzl]; simp
  have hrun:=run_make (P:=P) w t el i v' hu hi hzi kl kc lz cz h0 hlc hbytes h63
  have hb : Belo w.heap.size w (w.alloc (.cells (madeCells v'.cells (cz.toNat * i.size)) el)):=(Belo.refl _ _).alloc (Nat.le_refl _) _
  have hrow : Row (w.alloc (.cells (madeCells v'.cells (cz.toNat * i.size)) el)) (plus A w.heap.size) i.size (List.replicate lz.toNat (v'.cells.toList.map ofVal1)) (madeCells v'.cells (cz.toNat * i.size)).toList :=
    row_zero lz.toNat i.size v'.cells hvs hs0 hp (cz.toNat * i.size) (Nat.mul_le_mul_right _ (by omega))
  have hnew:=World.alloc_heap_new w (.cells (madeCells v'.cells (cz.toNat * i.size)) el)
  refine rel_value (w':=w.alloc (.cells (madeCells v'.cells (cz.toNat * i.size)) el)) (v:=.slice (some ⟨w.heap.size,0,none⟩) lz.toNat cz.toNat) ?run ⟨_,e,_,plus A w.heap.size,β ++ [some w.heap.size],hK,hcur.push hb (Nat.le_refl _) (by simp) ?blk,henv.mono (Stp.below hb) (plus_lt (Nat.le_refl _)) append_get,?rep⟩
  case run=>simp [execOp,ho,h1,h2,hrun]
  case blk=>exact ⟨(madeCells v'.cells (cz.toNat * i.size)).toList,el,by simpa using hnew,hrow.1,hrow.2⟩
  case rep =>
    have:=Rep.osl (w:=w.alloc (.cells (madeCells v'.cells (cz.toNat * i.size)) el)) (A:=plus A w.heap.size) (β ++ [some w.heap.size]) H.length i.size 0 lz.toNat w.heap.size cz.toNat (by rw [List.getElem?_append_right (by rw [hcur.rel.len]; exact Nat.le_refl _),hcur.rel.len]; simp) (by omega)
      ⟨_,_,_,hnew,by rw [size_madeCells]; simp⟩
    simpa using this
theorem scalar_one {w : World} {A : Nat -> Prop} {β : List (Option Nat)} {x : SV} {v : Value} (h : Rep w A β x v) (hs : x.scalar = true) : v.oneCell' = true:=by
  cases h <;> first | rfl | (cases hs; done) | skip
  case raw=>exact hs
theorem scalarL_mem : ∀ {fs : List SV},scalarL fs = true -> ∀ (i : Nat) (f : SV),fs[i]? = some f -> f.scalar = true
  | [],_,i,f,h=>by simp at h
  | g :: fs, hs, i, f, h => by
    simp only [scalarL,Bool.and_eq_true] at hs
    cases i with
    | zero=>simp at h; exact h ▸ hs.1
    | succ i=>exact scalarL_mem hs.2 i f (by simpa using h)
theorem reps_one {w : World} {A : Nat -> Prop} {β : List (Option Nat)} {fs : List SV} {vs : List Value} (h : Reps w A β fs vs) (hs : scalarL fs = true) : ∀ v ∈ vs,v.oneCell' = true:=fun v hv=>by
  obtain ⟨i,hi,he⟩:=List.getElem_of_mem hv
  have hi' : i < fs.length:=by rw [<- h.1]; exact hi
  exact scalar_one (h.2 i fs[i] v (by simp [hi']) (by simp [hi,he])) (scalarL_mem hs i _ (by simp [hi']))
theorem st_rel {t : TypeId} {x y : Operand} (ho : o.op = .store t x y) {s : Nat} (hs : szOf P t = some s) (h : xop P M ks (.st s (cOpd x) (cOpd y)) e H K) (hcur : Cur w0 A0 β0 M ks w A β H) (henv : EnvRel w A β e a.tmps) : rel P o a w (Then K w0 A0 β0 M ks a.tmps):=by
  simp only [xop] at h
  split at h
  . rename_i k wd i j hx
    split at h
    . rename_i fs hfs
      obtain ⟨hlen,hsc,h⟩:=h
      have hf:=cellsOf_reps hfs (ev_rep y fun t _=>henv t)
      have hone:=reps_one hf hsc
      have hrep:=hx ▸ ev_rep x fun t _=>henv t
      generalize hav : a.eval x = v at hrep
      cases hrep
      rename_i b hk
      have hvl : (a.eval y).cells.size = s:=by rw [<- hlen,<- hf.1]; simp
      have run : ∀ {cs : List Value} {T : TypeId},w.heap[b]? = some (.cells cs.toArray T (0,0)) -> i * wd + j + s <= cs.length ->
          (execOp a.eval o).run P w = .ok .skip (w.setRow b (cs.take (i * wd + j) ++ ((a.eval y).cells.toList ++ cs.drop (i * wd + j + (a.eval y).cells.toList.length))).toArray):=by
        intro cs T hb hle
        have:=run_storeCells_at P b (i * wd + j) T (a.eval y).cells.toList 0 cs.toArray w hb (by simpa [hvl] using hle) hone
        simp only [execOp,ho,Sem.run_bind,Instr.storeAt,hav,Instr.sureAddr,Sem.run_pure,Result.andThen_ok,storeVar,run_size hs,hvl,ne_eq,not_true,if_false]
        rw [this]
        simp [List.append_assoc]
      split at h
      . rename_i cells hblk
        obtain ⟨hle,hK⟩:=h
        obtain ⟨cs,T,hb,hcl,hcs⟩:=hcur.rel.blk k (some b) _ hk hblk
        have hle' : i * wd + j + s <= cs.length:=by rw [hcl]; exact hle
        have hl : (cs.take (i * wd + j) ++ ((a.eval y).cells.toList ++ cs.drop (i * wd + j + (a.eval y).cells.toList.length))).length = cs.length:=by simp [hvl]; omega
        obtain ⟨hfrm,_⟩:=setRow_frm (cs':=(cs.take (i * wd + j) ++ ((a.eval y).cells.toList ++ cs.drop (i * wd + j + (a.eval y).cells.toList.length)))) hb hl k hk
        have hstp:=hfrm.stp hcur.own
        unfold rel
        rw [run hb hle']
        refine ⟨_,e,_,A,β,hK,hcur.set hk hb hl ?_,henv.mono hstp (fun _ _ h=>h) (fun _ _ h=>h),.any _ _⟩
        have hnew:=splice_reps (off:=i * wd + j) (w:=w) (A:=A) (β:=β) (z:=cells) (fs:=fs) (cs:=cs) ⟨hcl,hcs⟩ hf (by omega)
        refine ⟨_,T,setRow_heap w b _ _ _ _ hb,hnew.1,fun p c u h1 h2=>(hnew.2 p c u h1 h2).mono hstp (fun _ _ h=>h)⟩
      . rename_i wd' xs hblk
        obtain ⟨rfl,hp,hjs,x',hx',hK⟩:=h
        obtain ⟨cs,T,hb,hcl,hcs⟩:=hcur.rel.blk k (some b) _ hk hblk
        have hix : i < xs.length:=(List.getElem?_eq_some_iff.1 hx').1
        have hle' : i * wd' + j + s <= cs.length:=by
          have : (i + 1) * wd' <= xs.length * wd':=Nat.mul_le_mul_right _ hix
          rw [Nat.add_mul,Nat.one_mul] at this
          omega
        have hl : (cs.take (i * wd' + j) ++ ((a.eval y).cells.toList ++ cs.drop (i * wd' + j + (a.eval y).cells.toList.length))).length = cs.length:=by simp [hvl]; omega
        obtain ⟨hfrm,_⟩:=setRow_frm (cs':=(cs.take (i * wd' + j) ++ ((a.eval y).cells.toList ++ cs.drop (i * wd' + j + (a.eval y).cells.toList.length)))) hb hl k hk
        have hstp:=hfrm.stp hcur.own
        unfold rel
        rw [run hb hle']
        refine ⟨_,e,_,A,β,hK,hcur.set hk hb hl ?_,henv.mono hstp (fun _ _ h=>h) (fun _ _ h=>h),.any _ _⟩
        have hxl:=(hcs i x' hx').1
        have hvl' : (a.eval y).cells.toList.length = s:=by simpa using hvl
        refine ⟨_,T,setRow_heap w b _ _ _ _ hb,by rw [hl]; simpa using hcl,fun p x'' hp'=>?_⟩
        by_cases hpi : p = i
        . subst hpi
          rw [List.getElem?_set_self hix] at hp'
          cases hp'
          refine ⟨by simp [splice,hlen,hxl]; omega,fun q c hq=>?_⟩
          have hql : q < wd':=by
            have:=(List.getElem?_eq_some_iff.1 hq).1
            simp [splice,hlen,hxl] at this; omega
          unfold splice at hq
          by_cases h1 : q < j
          . rw [List.getElem?_append_left (by simp; omega),List.getElem?_take_of_lt h1] at hq
            obtain ⟨u,hu1,hu2⟩:=(hcs p x' hx').2 q c hq
            refine ⟨u,?_,hu2.mono hstp (fun _ _ h=>h)⟩
            rw [List.getElem?_append_left (by simp; omega),List.getElem?_take_of_lt (by omega)]; exact hu1
          . have ej : (x'.take j).length = j:=by simp; omega
            rw [List.getElem?_append_right (by omega),ej] at hq
            by_cases h2 : q - j < fs.length
            . rw [List.getElem?_append_left h2] at hq
              obtain ⟨u,hu⟩ : ∃ u,(a.eval y).cells.toList[q - j]? = some u:=⟨(a.eval y).cells.toList[q - j]'(by rw [hf.1]; exact h2),by rw [List.getElem?_eq_getElem]⟩
              refine ⟨u,?_,((hf.2 _ c u hq hu).purely (pureL_mem hp _ c hq) []).mono hstp (fun _ _ h=>h)⟩
              rw [List.getElem?_append_right (by simp; omega),List.length_take,Nat.min_eq_left (by omega),List.getElem?_append_left (by rw [hf.1]; omega)]
              rw [<- hu]; congr 1; omega
            . rw [List.getElem?_append_right (by omega),List.getElem?_drop] at hq
              obtain ⟨u,hu1,hu2⟩:=(hcs p x' hx').2 _ c hq
              refine ⟨u,?_,hu2.mono hstp (fun _ _ h=>h)⟩
              rw [List.getElem?_append_right (by simp; omega),List.length_take,Nat.min_eq_left (by omega),List.getElem?_append_right (by rw [hvl']; omega),List.getElem?_drop,hvl']
              rw [<- hu1]; congr 1; omega
        . rw [List.getElem?_set_ne (Ne.symm hpi)] at hp'
          refine ⟨(hcs p x'' hp').1,fun q c hq=>?_⟩
          obtain ⟨u,hu1,hu2⟩:=(hcs p x'' hp').2 q c hq
          refine ⟨u,?_,hu2.mono hstp (fun _ _ h=>h)⟩
          have hql : q < wd':=by rw [<- (hcs p x'' hp').1]; exact (List.getElem?_eq_some_iff.1 hq).1
          rcases Nat.lt_or_gt_of_ne hpi with hlt | hgt
          . have : (p + 1) * wd' <= i * wd':=Nat.mul_le_mul_right _ hlt
            rw [Nat.add_mul,Nat.one_mul] at this
            rw [List.getElem?_append_left (by simp; omega),List.getElem?_take_of_lt (by omega)]; exact hu1
          . have : (i + 1) * wd' <= p * wd':=Nat.mul_le_mul_right _ hgt
            rw [Nat.add_mul,Nat.one_mul] at this
            rw [List.getElem?_append_right (by simp; omega),List.length_take,Nat.min_eq_left (by omega),List.getElem?_append_right (by rw [hvl']; omega),List.getElem?_drop,hvl']
            rw [<- hu1]; congr 1; omega
      . exact h.elim
    . exact h.elim
  . exact h.elim
end
end
section
open Go.RowKit
section
variable {P : Program} {w0 : World} {A0 : Nat -> Prop} {β0 : List (Option Nat)} {M : Nat} {ks : List Nat} {w : World} {A : Nat -> Prop} {β : List (Option Nat)} {H : List Blk}
variable {o : Oper} {op : IOp} {e : Env} {K : SV -> Env -> List Blk -> Prop} {a : Act}
theorem elems_ex {wd : Nat} {y : SV} {K' : List (List SV) → Prop} (h : elemsK wd H y K') : ∃ ys, K' ys ∧ ∀ (w : World) (A : Nat → Prop) (β : List (Option Nat)) (v : Value), 0 < wd → WRel w A β H → Rep w A β y v → (∀ x ∈ ys, scalarL x = true) →
    ∃ (ad : Option Addr) (c : Nat) (news : List Value), v = .slice ad ys.length c ∧ news.length = ys.length * wd ∧ Row w A wd ys news ∧ (∀ u ∈ news, u.oneCell' = true) ∧
      ((ad = none /\ ys = [] /\ news = []) \/ (ys = [] /\ news = []) \/ ∃ b off,ad = some ⟨b,off,none⟩ /\ ∀ (j : Nat) (u : Value),news[j]? = some u -> w.cell? ⟨b,off + j,none⟩ = some u):=by
  -- elements that lie in cells
  have core : ∀ {w : World} {A : Nat -> Prop} {ys : List (List SV)} {b off c : Nat} {cs : Array Value} {T : TypeId} {fr : Nat × Nat},0 < wd -> w.heap[b]? = some (.cells cs T fr) -> (∀ x ∈ ys,scalarL x = true) ->
      (∀ (i : Nat) (x : List SV),ys[i]? = some x -> x.length = wd /\ ∀ (j : Nat) (c : SV),x[j]? = some c -> ∃ u,cs[off + i * wd + j]? = some u /\ Rep w A [] c u) ->
      ∃ (ad : Option Addr) (c' : Nat) (news : List Value),(Value.slice (some ⟨b,off,none⟩) ys.length c) = .slice ad ys.length c' /\ news.length = ys.length * wd /\ Row w A wd ys news /\ (∀ u ∈ news,u.oneCell' = true) /\
      ((ad = none /\ ys = [] /\ news = []) \/ (ys = [] /\ news = []) \/ ∃ b off,ad = some ⟨b,off,none⟩ /\ ∀ (j : Nat) (u : Value),news[j]? = some u -> w.cell? ⟨b,off + j,none⟩ = some u):=by
    intro w A ys b off c cs T fr hwd hb hsc hcell
    let news:=(List.range (ys.length * wd)).map fun q=>(cs[off + q]?).getD undef
    have hget : ∀ q,q < ys.length * wd -> ∃ x c u,ys[q / wd]? = some x /\ x[q % wd]? = some c /\ cs[off + q]? = some u /\ Rep w A [] c u /\ news[q]? = some u:=by
      intro q hq
      have h1 : q / wd < ys.length:=Nat.div_lt_of_lt_mul (by rw [Nat.mul_comm]; exact hq)
      obtain ⟨hl,hc⟩:=hcell (q / wd) ys[q / wd] (by simp [h1])
      have h2 : q % wd < (ys[q / wd]).length:=by rw [hl]; exact Nat.mod_lt _ hwd
      obtain ⟨u,h3,h4⟩:=hc (q % wd) (ys[q / wd])[q % wd] (by simp [h2])
      have h5 : off + q / wd * wd + q % wd = off + q:=by
        have:=Nat.div_add_mod q wd
        rw [Nat.mul_comm] at this; omega
      rw [h5] at h3
      exact ⟨ys[q / wd],(ys[q / wd])[q % wd],u,by simp [h1],by simp [h2],h3,h4,by simp [news,hq,h3]⟩
    refine ⟨_,c,news,rfl,by simp [news],⟨by simp [news],fun i x hx=>⟨(hcell i x hx).1,fun j c hc=>?_⟩⟩,fun u hu=>?_,.inr (.inr ⟨b,off,rfl,fun j u hj=>?_⟩)⟩
    . obtain ⟨hl,_⟩:=hcell i x hx
      have hj : j < wd:=by rw [<- hl]; exact (List.getElem?_eq_some_iff.1 hc).1
      have hi : i < ys.length:=(List.getElem?_eq_some_iff.1 hx).1
      have hq : i * wd + j < ys.length * wd:=by
        have : (i + 1) * wd <= ys.length * wd:=Nat.mul_le_mul_right _ hi
        rw [Nat.add_mul,Nat.one_mul] at this; omega
      obtain ⟨x',c',u,h1,h2,h3,h4,h5⟩:=hget _ hq
      rw [Nat.mul_comm i wd,Nat.mul_add_div hwd,Nat.div_eq_of_lt hj,Nat.add_zero] at h1
      rw [Nat.mul_comm i wd,Nat.mul_add_mod,Nat.mod_eq_of_lt hj] at h2
      rw [hx] at h1; cases h1
      rw [hc] at h2; cases h2
      exact ⟨u,h5,h4⟩
    . obtain ⟨q,hq,rfl⟩:=List.getElem_of_mem hu
      have hq' : q < ys.length * wd:=by simpa [news] using hq
      obtain ⟨x,c,u,h1,h2,h3,h4,h5⟩:=hget q hq'
      have : news[q] = u:=by simpa [hq] using h5
      rw [this]
      exact scalar_one h4 (scalarL_mem (hsc x (List.mem_of_getElem? h1)) _ c h2)
    . have hq' : j < ys.length * wd:=by
        have:=(List.getElem?_eq_some_iff.1 hj).1
        simpa [news] using this
      obtain ⟨x,c,u',h1,h2,h3,h4,h5⟩:=hget j hq'
      rw [hj] at h5; cases h5
      rw [cell_of hb]; exact h3
  unfold elemsK at h
  split at h
  . refine ⟨[],h,fun w A β v _ hW hr _=>?_⟩
    cases hr
    exact ⟨_,0,[],rfl,by simp,⟨by simp,fun i x hx=>by simp at hx⟩,(fun u hu=>by cases hu),.inr (.inl ⟨rfl,rfl⟩)⟩
  . rename_i wd' ys
    obtain ⟨rfl,h⟩:=h
    refine ⟨ys,h,fun w A β v hwd hW hr hsc=>?_⟩
    cases hr with
    | slcZ=>exact ⟨_,0,[],rfl,by simp,⟨by simp,fun i x hx=>by simp at hx⟩,(fun u hu=>by cases hu),.inr (.inl ⟨rfl,rfl⟩)⟩
    | slc _ _ _ b off cap vs hm hcap hcs =>
      obtain ⟨⟨cs,T,fr,hb,hcell⟩,_,hl⟩:=hm
      exact core hwd hb hsc fun i x hx=>⟨hl i x hx,fun j c hc=>⟨_,hcell i x j hx (by rw [<- hl i x hx]; exact (List.getElem?_eq_some_iff.1 hc).1),hcs i x j c hx hc⟩⟩
  . rename_i k wd' i n
    split at h
    . rename_i wd'' xs hblk
      obtain ⟨rfl,rfl,hle,h⟩:=h
      refine ⟨_,h,fun w A β v hwd hW hr hsc=>?_⟩
      have hlen : ((xs.drop i).take n).length = n:=by simp; omega
      cases hr with
      | oslZ=>exact ⟨_,0,[],by simp; rfl,by simp,⟨by simp,fun i x hx=>by simp at hx⟩,(fun u hu=>by cases hu),.inr (.inl ⟨by simp,rfl⟩)⟩
      | osl _ _ _ _ _ b cap hk hcap hsz =>
        obtain ⟨cs,T,hb,hcl,hcs⟩:=hW.blk k (some b) _ hk hblk
        have:=core (c:=cap) (off:=i * wd'') hwd hb hsc fun p x hx=>by
          have hp : p < n:=by rw [<- hlen]; exact (List.getElem?_eq_some_iff.1 hx).1
          rw [List.getElem?_take_of_lt hp,List.getElem?_drop] at hx
          refine ⟨(hcs _ x hx).1,fun j c hc=>?_⟩
          obtain ⟨u,h1,h2⟩:=(hcs _ x hx).2 j c hc
          rw [Nat.add_mul] at h1
          exact ⟨u,by simpa using h1,h2⟩
        rw [hlen] at this ⊢
        exact this
    . exact h.elim
  . exact h.elim
theorem src_of {size : Nat} {tx e' : TypeId} (hk : P.underlying tx = some (.slice e')) {ad : Option Addr} {n c : Nat} {news : List Value} (hl : news.length = n * size) (h1 : ∀ u ∈ news,u.oneCell' = true)
    (hd : (ad = none /\ n = 0 /\ news = []) \/ (n = 0 /\ news = []) \/ ∃ b off,ad = some ⟨b,off,none⟩ /\ ∀ (j : Nat) (u : Value),news[j]? = some u -> w.cell? ⟨b,off + j,none⟩ = some u) : Src P size tx (.slice ad n c) n news w:=by
  rcases hd with ⟨rfl,rfl,rfl⟩ | ⟨rfl,rfl⟩ | ⟨b,off,rfl,hcell⟩
  . exact Src.ofNil w hk c
  . cases ad with
    | none=>exact Src.ofNil w hk c
    | some ad=>exact Src.ofSlice w hk ad 0 c [] (by simp) (fun j u h=>by simp at h) (fun u hu=>by cases hu)
  . exact Src.ofSlice w hk _ n c news hl (fun j u hj=>by rw [addr_add]; exact hcell j u hj) h1
theorem row_append {w : World} {A : Nat -> Prop} {wd : Nat} {xs ys : List (List SV)} {cs news rest : List Value} (hx : Row w A wd xs cs) (hcl : cs.length = xs.length * wd) (hy : Row w A wd ys news) (hnl : news.length = ys.length * wd) : Row w A wd (xs ++ ys) (cs ++ (news ++ rest)):=by
  refine ⟨by simp only [List.length_append,hcl,hnl,Nat.add_mul]; omega,fun i x hi=>?_⟩
  by_cases hlt : i < xs.length
  . rw [List.getElem?_append_left hlt] at hi
    refine ⟨(hx.2 i x hi).1,fun j c hc=>?_⟩
    obtain ⟨u,h1,h2⟩:=(hx.2 i x hi).2 j c hc
    refine ⟨u,?_,h2⟩
    rw [List.getElem?_append_left (List.getElem?_eq_some_iff.1 h1).1]; exact h1
  . rw [List.getElem?_append_right (by omega)] at hi
    refine ⟨(hy.2 _ x hi).1,fun j c hc=>?_⟩
    obtain ⟨u,h1,h2⟩:=(hy.2 _ x hi).2 j c hc
    refine ⟨u,?_,h2⟩
    have he : i * wd + j = xs.length * wd + ((i - xs.length) * wd + j):=by
      rw [Nat.sub_mul]
      have : xs.length * wd <= i * wd:=Nat.mul_le_mul_right _ (by omega)
      omega
    rw [List.getElem?_append_right (by rw [hcl,he]; omega),hcl,he,Nat.add_sub_cancel_left,List.getElem?_append_left (List.getElem?_eq_some_iff.1 h1).1]; exact h1
theorem row_take {w : World} {A : Nat -> Prop} {wd : Nat} {xs : List (List SV)} {cs : List Value} (hx : Row w A wd xs cs) : Row w A wd xs (cs.take (xs.length * wd)) /\ (cs.take (xs.length * wd)).length = xs.length * wd:=by
  have hl : (cs.take (xs.length * wd)).length = xs.length * wd:=by rw [List.length_take]; exact Nat.min_eq_left hx.1
  refine ⟨⟨by rw [hl]; exact Nat.le_refl _,fun i x hi=>⟨(hx.2 i x hi).1,fun j c hc=>?_⟩⟩,hl⟩
  obtain ⟨u,h1,h2⟩:=(hx.2 i x hi).2 j c hc
  refine ⟨u,?_,h2⟩
  have hj : j < wd:=by rw [<- (hx.2 i x hi).1]; exact (List.getElem?_eq_some_iff.1 hc).1
  have : (i + 1) * wd <= xs.length * wd:=Nat.mul_le_mul_right _ (List.getElem?_eq_some_iff.1 hi).1
  rw [Nat.add_mul,Nat.one_mul] at this
  rw [List.getElem?_take_of_lt (by omega)]; exact h1
theorem grownCap_ge (w : World) (need old : Nat) (t : TypeId) : need <= grownCap w need old t:=by
  unfold grownCap
  simp only [Question.cut]
  omega
theorem ap_rel {c : Call} {x y : Operand} (ho : o.op = .call c) (hcl : c.callee = .builtin .append) (hargs : c.args.toList = [x,y]) {el el' : TypeId} (ht : c.argTypes.toList.map P.underlying = [some (.slice el),some (.slice el')]) {i : TypeInfo} (hi : P.info? el = some i) {z : List SV} (hz : zeroOf P el = some z) (hzl : z.length = i.size) (hs0 : 0 < i.size)
    (h : xop P M ks (.ap i.size i.bytes (cOpd x) (cOpd y)) e H K) (hcur : Cur w0 A0 β0 M ks w A β H) (henv : EnvRel w A β e a.tmps) : rel P o a w (Then K w0 A0 β0 M ks a.tmps):=by
  obtain ⟨t,tx,hts,hu,hk⟩ : ∃ t tx,c.argTypes.toList = [t,tx] /\ P.underlying t = some (.slice el) /\ P.underlying tx = some (.slice el'):=by
    cases h : c.argTypes.toList with
    | nil=>simp [h] at ht
    | cons t l => cases l with
      | nil=>simp [h] at ht
      | cons t' l=>cases l <;> simp [h] at ht; exact ⟨t,t',rfl,ht.1,ht.2⟩
  have hts' : c.argTypes = #[t,tx]:=by apply Array.ext'; simpa using hts
  have hargs' : c.args = #[x,y]:=by apply Array.ext'; simpa using hargs
  obtain ⟨zv,hzv,hzvz⟩:=run_zero (P:=P) hz
  have hzi : i.zero = some zv:=by
    unfold zeroOf at hz
    obtain ⟨v',hv',_⟩:=Option.map_eq_some_iff.1 hz
    have hzi : i.zero = some v':=by simpa [hi] using hv'
    have:=hzv w
    simp [zeroValue,run_typeInfo hi,hzi] at this
    rw [hzi,this]
  have run : ∀ {w' : World} {v : Value},(Builtin.append_ #[t,tx] o.type #[a.eval x,a.eval y]).run P w = .ok v w' -> (execOp a.eval o).run P w = .ok (.value v) w':=by
    intro w' v h
    simp [execOp,ho,resolve,hcl,hargs',hts',invoke,builtin,h]
  simp only [xop] at h
  obtain ⟨ys,h,hys⟩:=elems_ex h
  have hyr:=ev_rep (e:=e) (a:=a) (w:=w) (A:=A) (β:=β) y fun t _=>henv t
  have hxr:=ev_rep (e:=e) (a:=a) (w:=w) (A:=A) (β:=β) x fun t _=>henv t
  split at h
  · -- onto one's own slice
    rename_i k wd' i0 n hx
    split at h
    . rename_i wd'' xs hblk
      obtain ⟨rfl,rfl,rfl,rfl,hks,hbytes,hlen,hsc,hK⟩:=h
      obtain ⟨ad,cy,news,hyv,hnl,hrow,hone,hsrc⟩:=hys w A β _ hs0 hcur.rel hyr hsc
      have hsrc' : Src P i.size tx (a.eval y) ys.length news w:=by
        rw [hyv]
        refine src_of hk hnl hone ?_
        rcases hsrc with ⟨h1,h2,h3⟩ | ⟨h2,h3⟩ | h
        . exact .inl ⟨h1,by simp [h2],h3⟩
        . exact .inr (.inl ⟨by simp [h2],h3⟩)
        . exact .inr (.inr h)
      rw [hx] at hxr
      have hkl : k < β.length:=by rw [hcur.rel.len]; exact (List.getElem?_eq_some_iff.1 hblk).1
      -- a new array
      have grow : ∀ (base : Option Addr) (cap : Nat) (olds : List Value),a.eval x = .slice base xs.length cap -> cap < xs.length + ys.length -> (cap = 0 \/ xs.length <= cap) -> Row w A i.size xs olds -> olds.length = xs.length * i.size ->
          (Builtin.firstCells i.size xs.length (.slice base xs.length cap)).run P w.drew = .ok olds.toArray w.drew -> rel P o a w (Then K w0 A0 β0 M ks a.tmps):=by
        intro base cap olds hav hcap hcap0 hro hol hfirst
        have hfit : Builtin.nextslicecap (xs.length + ys.length) cap * i.bytes <= 281474976710656:=growslice_fits hcap hbytes
        have hrun:=run_append_grow_src (P:=P) w t tx o.type el i zv hu hi hzi base xs.length cap olds hfirst (a.eval y) ys.length news hsrc' hcap (by omega) hfit
        rw [<- hav] at hrun
        have hb : Belo w.heap.size w (w.drew.alloc (.cells ((olds ++ news).toArray ++ Builtin.zeroCells zv.cells (grownCap w (xs.length + ys.length) cap el - (xs.length + ys.length))) el)):=((Belo.refl _ _).drew).alloc (by simp) _
        have hnew:=World.alloc_heap_new w.drew (.cells ((olds ++ news).toArray ++ Builtin.zeroCells zv.cells (grownCap w (xs.length + ys.length) cap el - (xs.length + ys.length))) el)
        have hcells : ((olds ++ news).toArray ++ Builtin.zeroCells zv.cells (grownCap w (xs.length + ys.length) cap el - (xs.length + ys.length))) = (olds ++ (news ++ (Builtin.zeroCells zv.cells (grownCap w (xs.length + ys.length) cap el - (xs.length + ys.length))).toList)).toArray:=by
          apply Array.ext'; simp
        have hge:=grownCap_ge w (xs.length + ys.length) cap el
        have hzs : zv.cells.size = i.size:=by rw [<- hzl,<- hzvz]; simp
        refine rel_value (run hrun) ⟨_,_,_,plus A w.heap.size,β.set k (some w.heap.size),hK,hcur.move hkl hks hb (Nat.le_refl _) (by simp) ?blk,?env,?rep⟩
        case blk =>
          have hrow':=row_append (rest:=(Builtin.zeroCells zv.cells (grownCap w (xs.length + ys.length) cap el - (xs.length + ys.length))).toList) hro hol hrow hnl
          have hrow'':=hrow'.mono (Stp.below hb) (plus_lt (Nat.le_refl _))
          exact ⟨_,el,by rw [<- hcells]; simpa using hnew,hrow''.1,hrow''.2⟩
        case env =>
          refine henv.kill (Stp.below hb) (plus_lt (Nat.le_refl _)) k fun j c hj hc=>?_
          rw [List.getElem?_set_ne (Ne.symm hj)]; exact hc
        case rep =>
          have:=Rep.osl (w:=w.drew.alloc (.cells ((olds ++ news).toArray ++ Builtin.zeroCells zv.cells (grownCap w (xs.length + ys.length) cap el - (xs.length + ys.length))) el)) (A:=plus A w.heap.size) (β.set k (some w.heap.size)) k i.size 0 (xs.length + ys.length) w.heap.size (grownCap w (xs.length + ys.length) cap el)
            (by rw [List.getElem?_set_self hkl]) hge ⟨_,_,_,by simpa using hnew,by
              simp only [Array.size_append,List.size_toArray,List.length_append,hol,hnl,Builtin.zeroCells,Array.size_map,Array.size_range,hzs,Nat.zero_add]
              rw [<- Nat.add_mul,<- Nat.add_mul]
              exact Nat.mul_le_mul_right _ (by omega)⟩
          simpa using this
      generalize hav : a.eval x = v at hxr
      generalize hxl : xs.length = xl at hxr
      cases hxr with
      | oslZ _ _ _ _ ad' =>
        have hxnil : xs = []:=List.length_eq_zero_iff.1 hxl
        subst hxnil
        by_cases hy0 : ys = []
        · -- nothing is appended
          subst hy0
          have hn0 : news = []:=List.length_eq_zero_iff.1 (by simpa using hnl)
          subst hn0
          have hrun:=run_append_nothing w t tx o.type el i hu hi ad' 0 0 (Nat.le_refl _) (a.eval y) hsrc'
          rw [<- hav] at hrun
          refine rel_value (run hrun) ⟨_,_,_,A,β,hK,?_,henv.kill (Stp.refl _ _) (fun _ _ h=>h) k fun _ _ _ h=>h,?_⟩
          . have hc:=hcur.killed k
            have hbk : (killH k H)[k]? = some (.arr i.size []):=by rw [killH_get,hblk]; rfl
            have : (killH k H).set k (.arr i.size []) = killH k H:=by
              apply List.ext_getElem?
              intro p
              by_cases hp : k = p
              . subst hp; rw [List.getElem?_set_self (List.getElem?_eq_some_iff.1 hbk).1,hbk]
              . rw [List.getElem?_set_ne hp]
            simp only [List.append_nil]
            rw [this]; exact hc
          . simp only [List.length_nil]
            rw [hav]
            exact .oslZ _ _ _ _ _
        . exact grow ad' 0 [] hav (by simp; have:=List.length_pos_iff.2 hy0; omega) (.inl rfl) ⟨by simp,fun i x hx=>by simp at hx⟩ (by simp) (by
            cases ad' with
            | none=>exact run_firstCells_none w.drew i.size 0 0 0
            | some ad'=>exact run_firstCells_some w.drew i.size 0 ad' 0 0 [] (by simp) fun j v h=>by simp at h)
      | osl _ _ _ _ _ b cap hkb hcap hsz =>
        subst hxl
        obtain ⟨cs,T,hb,hcl',hcs⟩:=hcur.rel.blk k (some b) _ hkb hblk
        obtain ⟨cs2,T2,fr2,hb2,hsz2⟩:=hsz
        rw [hb] at hb2
        cases hb2
        have hrowx : Row w A i.size xs cs:=⟨hcl',hcs⟩
        simp only [Nat.zero_mul] at hav
        by_cases hroom : xs.length + ys.length <= cap
        · -- there is room
          have hcsz : xs.length * i.size + news.length <= cs.length:=by
            rw [hnl,<- Nat.add_mul]
            refine Nat.le_trans (Nat.mul_le_mul_right _ hroom) ?_
            simpa using hsz2
          have hl : (cs.take (xs.length * i.size) ++ (news ++ cs.drop (xs.length * i.size + news.length))).length = cs.length:=by simp; omega
          obtain ⟨hfrm,_⟩:=setRow_frm (cs':=(cs.take (xs.length * i.size) ++ (news ++ cs.drop (xs.length * i.size + news.length)))) hb hl k hkb
          have hstp:=hfrm.stp hcur.own
          have hst:=run_storeCells_at P b (xs.length * i.size) T news 0 cs.toArray w hb (by simpa using hcsz) hone
          simp only [Nat.add_zero,List.append_assoc] at hst
          have hrun : (Builtin.append_ #[t,tx] o.type #[a.eval x,a.eval y]).run P w = .ok (.slice (some ⟨b,0,none⟩) (xs.length + ys.length) cap) (w.setRow b (cs.take (xs.length * i.size) ++ (news ++ cs.drop (xs.length * i.size + news.length))).toArray):=by
            rw [hav]
            simp [Builtin.append_,run_underlying hu,run_underlying hk,sizeOf,typeInfo,hi,hsrc'.len,hroom,hsrc'.cells,Addr.add_lit,hst]
          refine rel_value (run hrun) ⟨_,_,_,A,β,hK,(hcur.killed k).set hkb hb hl ?_,henv.kill hstp (fun _ _ h=>h) k fun _ _ _ h=>h,?_⟩
          . obtain ⟨htk,htl⟩:=row_take hrowx
            have hnewrow:=(row_append (rest:=cs.drop (xs.length * i.size + news.length)) htk htl hrow hnl).mono hstp (fun _ _ h=>h)
            exact ⟨_,T,setRow_heap w b _ _ _ _ hb,hnewrow.1,hnewrow.2⟩
          . have:=Rep.osl (w:=w.setRow b (cs.take (xs.length * i.size) ++ (news ++ cs.drop (xs.length * i.size + news.length))).toArray) (A:=A) β k i.size 0 (xs.length + ys.length) b cap hkb hroom ⟨_,T,_,setRow_heap w b _ _ _ _ hb,by
              simp only [List.size_toArray]
              rw [hl]; simpa using hsz2⟩
            simpa using this
        . obtain ⟨htk,htl⟩:=row_take hrowx
          refine grow (some ⟨b,0,none⟩) cap (cs.take (xs.length * i.size)) hav (by omega) (.inr hcap) htk htl (run_firstCells_some w.drew i.size xs.length ⟨b,0,none⟩ xs.length cap _ htl fun j v hj=>?_)
          have hjl : j < xs.length * i.size:=by
            have:=(List.getElem?_eq_some_iff.1 hj).1
            rw [htl] at this; exact this
          rw [addr_add,Nat.zero_add]
          have hb' : w.drew.heap[b]? = some (.cells cs.toArray T (0,0)):=hb
          rw [cell_of hb']
          rw [List.getElem?_take_of_lt hjl] at hj
          simpa using hj
    . exact h.elim
  · -- onto nil
    rename_i hx
    obtain ⟨hbytes,hlen,hsc,hK⟩:=h
    obtain ⟨ad,cy,news,hyv,hnl,hrow,hone,hsrc⟩:=hys w A β _ hs0 hcur.rel hyr hsc
    have hsrc' : Src P i.size tx (a.eval y) ys.length news w:=by
      rw [hyv]
      refine src_of hk hnl hone ?_
      rcases hsrc with ⟨h1,h2,h3⟩ | ⟨h2,h3⟩ | h
      . exact .inl ⟨h1,by simp [h2],h3⟩
      . exact .inr (.inl ⟨by simp [h2],h3⟩)
      . exact .inr (.inr h)
    rw [hx] at hxr
    generalize hav : a.eval x = v at hxr
    cases hxr
    rename_i ad'
    by_cases hy0 : ys = []
    . subst hy0
      have hn0 : news = []:=List.length_eq_zero_iff.1 (by simpa using hnl)
      subst hn0
      have hrun:=run_append_nothing w t tx o.type el i hu hi ad' 0 0 (Nat.le_refl _) (a.eval y) hsrc'
      rw [<- hav] at hrun
      refine rel_value (run hrun) ⟨_,_,_,A,β ++ [none],hK,hcur.nil,henv.mono (Stp.refl _ _) (fun _ _ h=>h) append_get,?_⟩
      rw [hav]
      exact .oslZ _ _ _ _ _
    . have hpos:=List.length_pos_iff.2 hy0
      have hfit : Builtin.nextslicecap (0 + ys.length) 0 * i.bytes <= 281474976710656:=growslice_fits (by omega) (by simpa using hbytes)
      have hfirst : (Builtin.firstCells i.size 0 (.slice ad' 0 0)).run P w.drew = .ok ([] : List Value).toArray w.drew:=by
        cases ad' with
        | none=>exact run_firstCells_none w.drew i.size 0 0 0
        | some ad'=>exact run_firstCells_some w.drew i.size 0 ad' 0 0 [] (by simp) fun j v h=>by simp at h
      have hrun:=run_append_grow_src (P:=P) w t tx o.type el i zv hu hi hzi ad' 0 0 [] hfirst (a.eval y) ys.length news hsrc' (by omega) (by omega) hfit
      rw [<- hav,Nat.zero_add] at hrun
      have hge:=grownCap_ge w ys.length 0 el
      have hzs : zv.cells.size = i.size:=by rw [<- hzl,<- hzvz]; simp
      have hb : Belo w.heap.size w (w.drew.alloc (.cells (([] ++ news).toArray ++ Builtin.zeroCells zv.cells (grownCap w ys.length 0 el - ys.length)) el)):=((Belo.refl _ _).drew).alloc (by simp) _
      have hnew:=World.alloc_heap_new w.drew (.cells (([] ++ news).toArray ++ Builtin.zeroCells zv.cells (grownCap w ys.length 0 el - ys.length)) el)
      have hcells : (([] ++ news).toArray ++ Builtin.zeroCells zv.cells (grownCap w ys.length 0 el - ys.length)) = ([] ++ (news ++ (Builtin.zeroCells zv.cells (grownCap w ys.length 0 el - ys.length)).toList)).toArray:=by
        apply Array.ext'; simp
      refine rel_value (run hrun) ⟨_,_,_,plus A w.heap.size,β ++ [some w.heap.size],hK,hcur.push hb (Nat.le_refl _) (by simp) ?blk,henv.mono (Stp.below hb) (plus_lt (Nat.le_refl _)) append_get,?rep⟩
      case blk =>
        have hrow':=row_append (w:=w) (A:=A) (xs:=[]) (cs:=[]) (rest:=(Builtin.zeroCells zv.cells (grownCap w ys.length 0 el - ys.length)).toList) ⟨by simp,fun i x hx=>by simp at hx⟩ (by simp) hrow hnl
        have hrow'':=hrow'.mono (Stp.below hb) (plus_lt (Nat.le_refl _))
        rw [List.nil_append] at hrow''
        exact ⟨_,el,by rw [<- hcells]; simpa using hnew,hrow''.1,hrow''.2⟩
      case rep =>
        have:=Rep.osl (w:=w.drew.alloc (.cells (([] ++ news).toArray ++ Builtin.zeroCells zv.cells (grownCap w ys.length 0 el - ys.length)) el)) (A:=plus A w.heap.size) (β ++ [some w.heap.size]) H.length i.size 0 ys.length w.heap.size (grownCap w ys.length 0 el)
          (by rw [List.getElem?_append_right (by rw [hcur.rel.len]; exact Nat.le_refl _),hcur.rel.len]; simp) hge ⟨_,_,_,by simpa using hnew,by
            simp only [Array.size_append,List.size_toArray,hnl,Builtin.zeroCells,Array.size_map,Array.size_range,hzs,Nat.zero_add]
            rw [<- Nat.add_mul]
            exact Nat.mul_le_mul_right _ (by omega)⟩
        simpa using this
  . exact h.elim
end
end
end Go.Proofs.YtelbhbadkbcakaaGreat
