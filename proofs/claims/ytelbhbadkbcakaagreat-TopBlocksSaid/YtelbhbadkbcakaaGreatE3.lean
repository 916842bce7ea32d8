/- Times; the document's sums. The document's sums. -/
import Derived.Test.YtelbhbadkbcakaaGreatE2
namespace Go.Proofs.YtelbhbadkbcakaaGreat
section
open Go.RowKit
attribute [local irreducible] FS FO IT HS
theorem eqFields_two {P : Program} {w : World} {d : Nat} {A : Nat -> Prop} {β : List (Option Nat)} {xs ys : List Value} {k k2 k3 : IntKind} {a b c a' b' c' : Int} (hx : Reps w A β [.int k a,.int k2 b,.int k3 c] xs) (hy : Reps w A β [.int k a',.int k2 b',.int k3 c'] ys) {f1 f2 : Field} {fields2 : Array Field}
    (h11 : f1.name ≠ "_") (h12 : f1.offset = 0) (h13 : P.underlying f1.type = some (.int k)) (h14 : szOf P f1.type = some 1) (h15 : aggOf P f1.type = some false)
    (h21 : f2.name ≠ "_") (h22 : f2.offset = 1) (h23 : P.underlying f2.type = some (.struct fields2)) (h24 : szOf P f2.type = some 2) (h25 : aggOf P f2.type = some true) (h26 : P.stoodInHeld f2.type = false) (hf : Flat P fields2.toList [k2, k3] 0) :
    (Op.eqFields (d + 2) xs.toArray ys.toArray [f1,f2]).run P w = .ok (decide (a = a') && decide ([b,c] = [b',c'])) w:=by
  obtain ⟨u,p1,p2⟩:=part_field (P:=P) (w:=w) h14 h15 (o:=0) (show PartOf 1 false [.int k a,.int k2 b,.int k3 c] 0 (.int k a) from rfl) hx
  obtain ⟨v,q1,q2⟩:=part_field (P:=P) (w:=w) h14 h15 (o:=0) (show PartOf 1 false [.int k a',.int k2 b',.int k3 c'] 0 (.int k a') from rfl) hy
  rw [rep_int p2] at p1
  rw [rep_int q2] at q1
  obtain ⟨u2,p3,p4⟩:=part_field (P:=P) (w:=w) h24 h25 (o:=1) (show PartOf 2 true [.int k a,.int k2 b,.int k3 c] 1 (.agg [.int k2 b,.int k3 c]) from ⟨by simp,rfl⟩) hx
  obtain ⟨v2,q3,q4⟩:=part_field (P:=P) (w:=w) h24 h25 (o:=1) (show PartOf 2 true [.int k a',.int k2 b',.int k3 c'] 1 (.agg [.int k2 b',.int k3 c']) from ⟨by simp,rfl⟩) hy
  have he:=run_equalIn_int (P:=P) w (d + 1) f1.type k k a a' h13
  cases p4 with
  | agg _ _ us hl1 hr1 =>
    cases q4 with
    | agg _ _ vs hl2 hr2 =>
      have ht' : P.underlying f2.type = some (.struct (P.fieldsOf f2.type)):=by simp [Program.fieldsOf,h23]
      have hfo : P.fieldsOf f2.type = fields2:=by simp [Program.fieldsOf,h23]
      have hin:=run_equalIn_agg (P:=P) w (d + 1) f2.type us.toArray vs.toArray ht' h26
      have hl : ∀ (x y : Int),∀ i,i < [k2,k3].length -> [SV.int k2 x,SV.int k3 y][0 + i]? = (kints [k2,k3] [x,y])[i]?:=fun x y i _=>by rw [Nat.zero_add]; rfl
      have h:=eqFields_flat (P:=P) (w:=w) (d:=d) (A:=A) (β:=β) (xs:=us) (ys:=vs) ⟨hl1,hr1⟩ ⟨hl2,hr2⟩ fields2.toList [k2,k3] 0 [b,c] [b',c'] hf rfl rfl (hl b c) (hl b' c')
      rw [hfo,h] at hin
      simp only [Op.eqFields,if_pos h11,if_pos h21,h12,h22,Sem.run_bind,p1,q1,Result.andThen_ok,he]
      by_cases hab : a = a'
      . subst hab
        generalize decide ([b,c] = [b',c']) = z at *
        cases z <;> simp [p3,q3,hin,Result.andThen_ok]
      . have : (a == a') = false:=by simpa using hab
        simp [this,hab]
theorem eqok_two {P : Program} {t : TypeId} (neg : Bool) {k k2 k3 : IntKind} {a b c a' b' c' : Int} {f1 f2 : Field} {fields2 : Array Field} (ht0 : P.underlying t = some (.struct #[f1,f2])) (hp : P.stoodInHeld t = false) (hm : P.eqGuardType P.depth t = false)
    (h11 : f1.name ≠ "_") (h12 : f1.offset = 0) (h13 : P.underlying f1.type = some (.int k)) (h14 : szOf P f1.type = some 1) (h15 : aggOf P f1.type = some false)
    (h21 : f2.name ≠ "_") (h22 : f2.offset = 1) (h23 : P.underlying f2.type = some (.struct fields2)) (h24 : szOf P f2.type = some 2) (h25 : aggOf P f2.type = some true) (h26 : P.stoodInHeld f2.type = false) (hf : Flat P fields2.toList [k2, k3] 0) :
    EqOk P neg t [.int k a,.int k2 b,.int k3 c] [.int k a',.int k2 b',.int k3 c'] (match neg with | true=>!(decide (a = a') && decide ([b,c] = [b',c'])) | false=>decide (a = a') && decide ([b,c] = [b',c'])):=by
  intro w A β u v p q hu hv
  have ht : P.underlying t = some (.struct (P.fieldsOf t)):=by simp [Program.fieldsOf,ht0]
  have hfo : P.fieldsOf t = #[f1,f2]:=by simp [Program.fieldsOf,ht0]
  cases hu with
  | agg _ _ xs hlx hxs =>
    cases hv with
    | agg _ _ ys hly hys =>
      have h:=eqFields_two (P:=P) (w:=w) (d:=9997) (A:=A) (β:=β) (xs:=xs) (ys:=ys) ⟨hlx,hxs⟩ ⟨hly,hys⟩ h11 h12 h13 h14 h15 h21 h22 h23 h24 h25 h26 hf
      have hin:=run_equalIn_agg (P:=P) w 9999 t xs.toArray ys.toArray ht hp
      rw [hfo,h] at hin
      cases neg with
      | false =>
        have hg:=run_eqGuard_agg (P:=P) w .eql t p q xs.toArray ys.toArray hm
        have hb:=run_eql_struct (P:=P) w t xs.toArray ys.toArray
        simp only [Bool.false_eq_true,if_false,Sem.run_bind,hg,Result.andThen_ok,hb,hin]
      | true =>
        have hg:=run_eqGuard_agg (P:=P) w .neq t p q xs.toArray ys.toArray hm
        have hb:=run_neq_struct (P:=P) w t xs.toArray ys.toArray
        simp only [if_true,Sem.run_bind,hg,Result.andThen_ok,hb,hin]
theorem eqs (neg : Bool) (x y : Int × Int) (hx : W128 x.2) (hy : W128 y.2) : EqOk Tryz.prog neg 95 [.int .i64 x.1,.int .i64 (hi x.2),.int .u64 (lo x.2)] [.int .i64 y.1,.int .i64 (hi y.2),.int .u64 (lo y.2)] (match neg with | true=>!(decide (x = y)) | false=>decide (x = y)):=by
  have h:=eqok_two (P:=Tryz.prog) (k:=.i64) (k2:=.i64) (k3:=.u64) (a:=x.1) (b:=hi x.2) (c:=lo x.2) (a':=y.1) (b':=hi y.2) (c':=lo y.2) neg Tryz.underlying95 (by kernel_rfl) (by kernel_rfl)
    (by decide) rfl (by kernel_rfl) (by kernel_rfl) (by kernel_rfl) (by decide) rfl Tryz.underlying93 (by kernel_rfl) (by kernel_rfl) (by kernel_rfl) ⟨by decide,rfl,by kernel_rfl,by kernel_rfl,by kernel_rfl,by decide,rfl,by kernel_rfl,by kernel_rfl,by kernel_rfl,trivial⟩
  have hd : decide (x = y) = (decide (x.1 = y.1) && decide ([hi x.2,lo x.2] = [hi y.2,lo y.2])):=by
    rw [Bool.eq_iff_iff,Bool.and_eq_true,decide_eq_true_eq,decide_eq_true_eq,decide_eq_true_eq]
    constructor
    . rintro rfl; exact ⟨rfl,rfl⟩
    . rintro ⟨h1,h2⟩
      simp only [List.cons.injEq,and_true] at h2
      exact Prod.ext h1 (eq_of_halves hx hy h2.1 h2.2)
  rw [hd]
  exact h
def ir_fretworkref13_SameSums : IR :=
(.seq (.reg (⟨some 4,.mv (.c (.bool false)),none⟩::[])) (.seq (.seq (.reg (⟨some 6,.mv (.t 0),none⟩::⟨some 7,.ln (.t 6),none⟩::⟨some 8,.mv (.t 1),none⟩::⟨some 9,.ln (.t 8),none⟩::⟨some 10,.bin .neq (.t 7) (.t 9),none⟩::[])) (.cond (.t 10) (.seq (.reg (⟨some 4,.mv (.c (.bool false)),none⟩::[])) .ret) .skip)) (.seq (.seq (.reg (⟨some 5,.mv (.c (.int .i64 0)),none⟩::[])) (.block 0 (.loop (.seq (.seq (.reg (⟨some 11,.mv (.t 5),none⟩::⟨some 12,.mv (.t 0),none⟩::⟨some 13,.ln (.t 12),none⟩::⟨some 14,.bin .lss (.t 11) (.t 13),none⟩::[])) (.cond (.t 14) .skip (.exit 0))) (.seq (.block 1 (.seq (.draw (⟨some 17,.mv (.t 0),none⟩::⟨some 18,.mv (.t 5),none⟩::⟨some 19,.ia 3 (.t 17) (.t 18),none⟩::⟨some 20,.ld 3 true (.t 19),none⟩::⟨some 21,.mv (.t 1),none⟩::⟨some 22,.mv (.t 5),none⟩::⟨some 23,.ia 3 (.t 21) (.t 22),none⟩::⟨some 24,.ld 3 true (.t 23),none⟩::[]) (⟨some 25,.eqv true 95 (.t 20) (.t 24),none⟩::[])) (.cond (.t 25) (.seq (.reg (⟨some 4,.mv (.c (.bool false)),none⟩::[])) .ret) .skip))) (.reg (⟨some 15,.mv (.t 5),none⟩::⟨some 16,.bin .add (.t 15) (.c (.int .i64 1)),none⟩::⟨some 5,.mv (.t 16),none⟩::[]))))))) (.seq (.reg (⟨some 4,.mv (.c (.bool true)),none⟩::[])) .ret))))
theorem cd_fretworkref13_SameSums : Code1 Tryz.prog 13 26 ir_fretworkref13_SameSums [.t 4]:=⟨Tryz.call13,_,_,Tryz.func13,rfl,by kernel_rfl,by kernel_rfl,by kernel_rfl,by kernel_rfl⟩
theorem fs_SameSums (a b : List (Int × Int)) (hl : a.length <= 1000000000) (ha : ∀ x ∈ a,W128 x.2) (hb : ∀ x ∈ b,W128 x.2) : FS Tryz.prog 13 [SM a,SM b] (.bool (decide (a = b))):=by
  refine fs_of_cvc mixed cd_fretworkref13_SameSums (by simp) ?_
  have hal:=sms_len a
  have hbl:=sms_len b
  repeat' (conv=>whnf); first |(refine Br.dec (fun h=>?_) (fun h=>?_)) <;> try (exfalso; omega) | refine And.intro rfl ?_ | fail
  . show SV.bool false = _
    rw [decide_eq_false]; intro e; subst e; omega
  have hlen : a.length = b.length:=by omega
  refine ⟨Nat,fun k=>k <= a.length /\ a.take k = b.take k,fun k=>[(0,SM a),(1,SM b),(5,.int .i64 (k : Int))],fun k=>[],fun _=>none,fun k=>a.length - k,⟨0,⟨by omega,rfl⟩,⟨rfl,rfl,rfl,trivial⟩,trivial,rfl⟩,fun k hk=>?_⟩
  have hk' : k <= a.length:=hk.1
  by_cases hkl : k < a.length
  . obtain ⟨x,hx⟩ : ∃ x,a.getD k (0,0) = x:=⟨_,rfl⟩
    obtain ⟨y,hy⟩ : ∃ y,b.getD k (0,0) = y:=⟨_,rfl⟩
    have hxk : a[k]? = some x:=by rw [<- hx]; exact getD_some hkl
    have hyk : b[k]? = some y:=by rw [<- hy]; exact getD_some (by omega)
    have c:=eqs true x y (ha x (List.mem_of_getElem? hxk)) (hb y (List.mem_of_getElem? hyk))
    repeat' (conv=>whnf); first |(refine sms_go (i:=k) (by omega) hx ?_) |(refine sms_go (i:=k) (by omega) hy ?_) |(refine ⟨_,c,?_⟩) |(refine And.intro (show _ <= _ from Nat.le_of_ble_eq_true rfl) ?_) |(refine Br.dec (fun h=>?_) (fun h=>?_)) <;> try (exfalso; omega) | refine Br.neg ?_ | refine And.intro rfl ?_ |(refine And.intro (by omega) ?_) |(refine ⟨_,Or.inl ⟨⟨by omega,by omega⟩,rfl⟩,?_⟩) | fail
    . refine ⟨k + 1,⟨(show k + 1 <= a.length by omega),take_more hk.2 (by rw [hxk,hyk,h])⟩,(show a.length - (k + 1) < a.length - k by omega),⟨rfl,rfl,rfl,trivial⟩,trivial,rfl⟩
    . show SV.bool false = _
      rw [decide_eq_false]
      rintro rfl
      rw [hxk] at hyk; cases hyk; exact h rfl
  . have hkl : k = a.length:=by omega
    repeat' (conv=>whnf); first |(refine Br.dec (fun h=>?_) (fun h=>?_)) <;> try (exfalso; omega) | refine And.intro rfl ?_ | fail
    show SV.bool true = _
    rw [decide_eq_true]
    have:=hk.2
    rwa [hkl,List.take_length,hlen,List.take_length] at this
end
section
open Go.RowKit
attribute [local irreducible] FS FO IT HS
end
end Go.Proofs.YtelbhbadkbcakaaGreat
