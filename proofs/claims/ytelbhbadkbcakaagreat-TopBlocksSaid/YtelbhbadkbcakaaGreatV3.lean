/- The laws on two sparse vectors: the program answers as the document. Edges, combined: the document's function. Edges, combined: the document's function. -/
import Derived.Test.YtelbhbadkbcakaaGreatV2
namespace Go.Proofs.YtelbhbadkbcakaaGreat
section
open Go.RowKit
attribute [local irreducible] FS FO IT HS
end
section
open Go.RowKit
attribute [local irreducible] FS FO IT HS
def eds (l : List (Int × Int × Int)) : List (List SV):=l.map fun x=>[.int .i64 x.1,.int .i64 x.2.1,.int .i64 x.2.2]
def EL (l : List (Int × Int × Int)) : SV:=.slc 3 (eds l)
def wds (l : List Int) : List (List SV):=l.map fun x=>[.int .i64 (hi x),.int .u64 (lo x)]
theorem eds_len (l : List (Int × Int × Int)) : (eds l).length = l.length:=by simp [eds]
theorem wds_len (l : List Int) : (wds l).length = l.length:=by simp [wds]
theorem eds_is {l : List (Int × Int × Int)} {q : Nat} {x : List SV} (h : (eds l)[q]? = some x) {i : Nat} (hq : q = i) : x = [.int .i64 (l.getD i (0,0,0)).1,.int .i64 (l.getD i (0,0,0)).2.1,.int .i64 (l.getD i (0,0,0)).2.2]:=by
  subst hq
  simp only [eds,List.getElem?_map,Option.map_eq_some_iff] at h
  obtain ⟨y,h1,rfl⟩:=h
  simp [h1]
theorem eds_at (m : List (Int × Int × Int)) {q j : Nat} (hq : q = j) (h : j < m.length) : (eds m)[q]? = some [.int .i64 (m.getD j (0,0,0)).1,.int .i64 (m.getD j (0,0,0)).2.1,.int .i64 (m.getD j (0,0,0)).2.2]:=by
  subst hq
  simp [eds,h]
theorem wds_at (m : List Int) {q j : Nat} (hq : q = j) (h : j < m.length) : (wds m)[q]? = some [.int .i64 (hi (m.getD j 0)),.int .u64 (lo (m.getD j 0))]:=by
  subst hq
  simp [wds,h]
theorem eds_set (m : List (Int × Int × Int)) (i : Nat) (a b c : Int) : (eds m).set i [.int .i64 a,.int .i64 b,.int .i64 c] = eds (m.set i (a,b,c)):=by simp [eds,List.map_set]
theorem wds_set (m : List Int) (i : Nat) (a : Int) : (wds m).set i [.int .i64 (hi a),.int .u64 (lo a)] = wds (m.set i a):=by simp [wds,List.map_set]
theorem eds_append (l m : List (Int × Int × Int)) : eds (l ++ m) = eds l ++ eds m:=by simp [eds]
theorem wds_append (l m : List Int) : wds (l ++ m) = wds l ++ wds m:=by simp [wds]
def bel (a b : Int × Int × Int) : Bool:=decide (a.1 < b.1) || (decide (a.1 = b.1) && decide (a.2.1 < b.2.1))
def cpos (E : List (Int × Int × Int)) (x : Int × Int × Int) : Nat:=(E.takeWhile fun y=>bel y x).length
theorem cpos_le (E : List (Int × Int × Int)) (x : Int × Int × Int) : cpos E x <= E.length:=by
  exact (List.takeWhile_sublist _).length_le
theorem cpos_lt {E : List (Int × Int × Int)} {x : Int × Int × Int} {i : Nat} (h : i < cpos E x) : bel (E.getD i (0,0,0)) x = true:=by
  have hl:=cpos_le E x
  induction E generalizing i with
  | nil=>simp at hl; omega
  | cons e E ih =>
    unfold cpos at h ih
    rw [List.takeWhile_cons] at h
    split at h
    . rename_i he
      cases i with
      | zero=>simpa using he
      | succ i =>
        simp at h
        simpa using ih h (cpos_le E x)
    . simp at h
theorem cpos_at {E : List (Int × Int × Int)} {x : Int × Int × Int} (h : cpos E x < E.length) : bel (E.getD (cpos E x) (0,0,0)) x = false:=by
  induction E with
  | nil=>simp at h
  | cons e E ih =>
    unfold cpos at h ih ⊢
    rw [List.takeWhile_cons] at h ⊢
    split
    . rename_i he
      rw [if_pos he] at h
      simp at h
      simpa using ih h
    . rename_i he
      simpa using he
def cStep (r : Int) (s : List (Int × Int × Int) × List Int) (x : Int × Int × Int) : List (Int × Int × Int) × List Int :=
  if cpos s.1 x < s.1.length /\ bel x (s.1.getD (cpos s.1 x) (0,0,0)) = false then (s.1,s.2.set (cpos s.1 x) (rAdd r (s.2.getD (cpos s.1 x) 0) x.2.2))
  else (s.1.take (cpos s.1 x) ++ (x.1,x.2.1,0)::s.1.drop (cpos s.1 x),s.2.take (cpos s.1 x) ++ x.2.2::s.2.drop (cpos s.1 x))
def sh {α : Type} (E : List α) (z : α) (k : Nat) : List α:=(E ++ [z]).take (k + 1) ++ E.drop k
theorem sh_len {α : Type} (E : List α) (z : α) {k : Nat} (h : k <= E.length) : (sh E z k).length = E.length + 1:=by simp [sh]; omega
theorem sh_top {α : Type} (E : List α) (z : α) : sh E z E.length = E ++ [z]:=by
  unfold sh
  rw [List.take_of_length_le (by simp),List.drop_length,List.append_nil]
theorem sh_get {α : Type} (E : List α) (z d : α) {k : Nat} (h : k <= E.length) (h0 : 0 < k) : (sh E z k).getD (k - 1) d = E.getD (k - 1) d:=by
  unfold sh
  rw [List.getD_eq_getElem?_getD,List.getD_eq_getElem?_getD,List.getElem?_append_left (by simp; omega),List.getElem?_take_of_lt (by omega),List.getElem?_append_left (by omega)]
theorem sh_end {α : Type} (E : List α) (z x : α) {k : Nat} (h : k <= E.length) : (sh E z k).set k x = E.take k ++ x::E.drop k:=by
  unfold sh
  rw [List.take_add_one,List.take_append_of_le_length h,List.append_assoc,List.set_append,if_neg (by simp; omega)]
  have h1 : (E.take k).length = k:=by simp; omega
  rw [h1,Nat.sub_self]
  have h2 : (E ++ [z])[k]? = some ((E ++ [z])[k]'(by simp; omega)):=List.getElem?_eq_getElem _
  rw [h2]
  rfl
theorem sh_step {α : Type} (E : List α) (z d : α) {k : Nat} (h : k <= E.length) (h0 : 0 < k) : (sh E z k).set k (E.getD (k - 1) d) = sh E z (k - 1):=by
  rw [sh_end E z _ h]
  unfold sh
  rw [show k - 1 + 1 = k by omega,List.take_append_of_le_length h]
  congr 1
  rw [List.drop_eq_getElem_cons (show k - 1 < E.length by omega),show k - 1 + 1 = k by omega]
  simp [show k - 1 < E.length by omega]
def nrE (E : List (Int × Int × Int)) (S : List Int) (k : Nat) : List (Int × Int × Int):=(List.range E.length).map fun i=>((E.getD i (0,0,0)).1,(E.getD i (0,0,0)).2.1,if i < k then nar (S.getD i 0) else (E.getD i (0,0,0)).2.2)
theorem nrE_len (E : List (Int × Int × Int)) (S : List Int) (k : Nat) : (nrE E S k).length = E.length:=by simp [nrE]
theorem nrE_zero (E : List (Int × Int × Int)) (S : List Int) : nrE E S 0 = E:=by
  apply List.ext_getElem?
  intro i
  by_cases h : i < E.length <;> simp [nrE,h]
theorem nrE_get (E : List (Int × Int × Int)) (S : List Int) (k : Nat) {i : Nat} (h : i < E.length) : (nrE E S k).getD i (0,0,0) = ((E.getD i (0,0,0)).1,(E.getD i (0,0,0)).2.1,if i < k then nar (S.getD i 0) else (E.getD i (0,0,0)).2.2):=by
  simp [nrE,h]
theorem nrE_set (E : List (Int × Int × Int)) (S : List Int) {k : Nat} (h : k < E.length) : (nrE E S k).set k ((E.getD k (0,0,0)).1,(E.getD k (0,0,0)).2.1,nar (S.getD k 0)) = nrE E S (k + 1):=by
  apply List.ext_getElem?
  intro i
  rw [List.getElem?_set]
  by_cases hi : i < E.length
  . by_cases hk : k = i
    . subst hk; simp [nrE,hi]
    . simp [nrE,hi,hk]
      congr 1
      simp [show (i < k + 1) = (i < k) by simp; omega]
  . simp [nrE,hi]; intro h'; omega
def cmb (r : Int) (l : List (Int × Int × Int)) : List (Int × Int × Int) × List Int:=l.foldl (cStep r) ([],[])
def cmbR (r : Int) (l : List (Int × Int × Int)) : List (Int × Int × Int) × Int :=
  if isR r = true then (if (cmb r l).2.all fits = true then (nrE (cmb r l).1 (cmb r l).2 (cmb r l).1.length,0) else ([],12)) else ([],8)
theorem cStep_len (r : Int) {E : List (Int × Int × Int)} {S : List Int} (h : E.length = S.length) (x : Int × Int × Int) : (cStep r (E,S) x).1.length = (cStep r (E,S) x).2.length /\ (cStep r (E,S) x).1.length <= E.length + 1:=by
  have:=cpos_le E x
  unfold cStep
  split
  . simp [h]
  . simp; omega
theorem cStep_w (r : Int) {E : List (Int × Int × Int)} {S : List Int} (h : ∀ s ∈ S,W128 s) {x : Int × Int × Int} (hx : I64 x.2.2) : ∀ s ∈ (cStep r (E,S) x).2,W128 s:=by
  intro s hs
  unfold cStep at hs
  split at hs
  . simp only at hs
    rcases List.mem_or_eq_of_mem_set hs with hs | hs
    . exact h s hs
    . subst hs
      refine rAdd_w ?_ (W64i hx)
      by_cases hp : cpos E x < S.length
      . have : S.getD (cpos E x) 0 = S[cpos E x]:=by simp [hp]
        rw [this]; exact h _ (List.getElem_mem hp)
      . have : S.getD (cpos E x) 0 = 0:=by simp [List.getElem?_eq_none (show S.length <= cpos E x by omega)]
        rw [this]; exact W64i (by unfold I64; omega)
  . rcases List.mem_append.1 hs with hs | hs
    . exact h s (List.mem_of_mem_take hs)
    . rcases List.mem_cons.1 hs with hs | hs
      . subst hs; exact W64i hx
      . exact h s (List.mem_of_mem_drop hs)
def ir_fretworkref05_below : IR :=
(.seq (.reg (⟨some 2,.bx (.t 0),none⟩::⟨some 3,.bx (.t 1),none⟩::⟨some 4,.mv (.c (.bool false)),none⟩::[])) (.seq (.reg (⟨some 5,.fa 0 (.t 2),none⟩::⟨some 6,.ld 1 false (.t 5),none⟩::⟨some 7,.fa 0 (.t 3),none⟩::⟨some 8,.ld 1 false (.t 7),none⟩::⟨some 9,.bin .lss (.t 6) (.t 8),none⟩::⟨some 10,.mv (.t 9),none⟩::⟨some 11,.fa 0 (.t 2),some (10,false)⟩::⟨some 12,.ld 1 false (.t 11),some (10,false)⟩::⟨some 13,.fa 0 (.t 3),some (10,false)⟩::⟨some 14,.ld 1 false (.t 13),some (10,false)⟩::⟨some 15,.bin .eql (.t 12) (.t 14),some (10,false)⟩::⟨some 16,.mv (.t 15),some (10,false)⟩::⟨some 17,.fa 1 (.t 2),some (16,true)⟩::⟨some 18,.ld 1 false (.t 17),some (16,true)⟩::⟨some 19,.fa 1 (.t 3),some (16,true)⟩::⟨some 20,.ld 1 false (.t 19),some (16,true)⟩::⟨some 21,.bin .lss (.t 18) (.t 20),some (16,true)⟩::⟨some 22,.pick (.t 16) (.t 21) (.c (.bool false)),some (10,false)⟩::⟨some 23,.pick (.t 10) (.c (.bool true)) (.t 22),none⟩::⟨some 4,.mv (.t 23),none⟩::[])) .ret))
theorem cd_fretworkref05_below : Code1 Tryz.prog 105 24 ir_fretworkref05_below [.t 4]:=⟨Tryz.call105,_,_,Tryz.func105,rfl,by kernel_rfl,by kernel_rfl,by kernel_rfl,by kernel_rfl⟩
theorem fs_r5below (a b c d e f : Int) : FS Tryz.prog 105 [.agg [.int .i64 a,.int .i64 b,.int .i64 c],.agg [.int .i64 d,.int .i64 e,.int .i64 f]] (.bool (bel (a,b,c) (d,e,f))):=by
  refine fs_of_cvc mixed cd_fretworkref05_below (by simp) ?_
  repeat' (conv=>whnf); first | refine Br.tt ?_ | refine Br.ff ?_ |(refine Br.dec (fun h=>?_) (fun h=>?_)) <;> try (exfalso; omega) | refine And.intro rfl ?_ | fail
  all_goals
    show SV.bool _ = SV.bool _
    refine congrArg SV.bool ?_
    rw [Bool.eq_iff_iff]
    simp [bel]
    try omega
end
section
open Go.RowKit
attribute [local irreducible] FS FO IT HS
theorem wds_zero : wds [0] = [[.int .i64 0,.int .u64 0]]:=by kernel_rfl
abbrev EA (x : Int × Int × Int) : SV:=.agg [.int .i64 x.1,.int .i64 x.2.1,.int .i64 x.2.2]
theorem eds_is' {l : List (Int × Int × Int)} {x : Int × Int × Int} {q i : Nat} {K : List SV -> Prop} (hq : q = i) (hx : l.getD i (0,0,0) = x) (h : K [.int .i64 x.1,.int .i64 x.2.1,.int .i64 x.2.2]) : ∀ y,(eds l)[q]? = some y -> K y:=fun y hy=>by rw [eds_is hy hq,hx]; exact h
def ir_fretworkref05_Combine : IR :=
(.seq (.reg (⟨some 4,.mv (.c (.nils)),none⟩::⟨some 5,.mv (.c (.int .i64 0)),none⟩::[])) (.seq (.seq (.reg (⟨some 15,.mv (.t 0),none⟩::⟨some 16,.call (.c (.fn 73 [])) [(.t 15)],none⟩::⟨some 17,.un .not (.t 16),none⟩::[])) (.cond (.t 17) (.seq (.reg (⟨some 4,.mv (.c (.nils)),none⟩::⟨some 5,.mv (.c (.int .i64 8)),none⟩::[])) .ret) .skip)) (.seq (.reg (⟨some 6,.mv (.c (.nils)),none⟩::[])) (.seq (.reg (⟨some 7,.mv (.c (.nils)),none⟩::[])) (.seq (.seq (.reg (⟨some 8,.mv (.c (.int .i64 0)),none⟩::[])) (.block 0 (.loop (.seq (.seq (.reg (⟨some 18,.mv (.t 8),none⟩::⟨some 19,.mv (.t 1),none⟩::⟨some 20,.ln (.t 19),none⟩::⟨some 21,.bin .lss (.t 18) (.t 20),none⟩::[])) (.cond (.t 21) .skip (.exit 0))) (.seq (.block 1 (.seq (.reg (⟨some 9,.mv (.c (.int .i64 0)),none⟩::[])) (.seq (.block 2 (.loop (.seq (.seq (.draw (⟨some 24,.mv (.t 9),none⟩::⟨some 25,.mv (.t 6),none⟩::⟨some 26,.ln (.t 25),none⟩::⟨some 27,.bin .lss (.t 24) (.t 26),none⟩::⟨some 28,.mv (.t 27),none⟩::⟨some 29,.mv (.t 6),some (28,true)⟩::⟨some 30,.mv (.t 9),some (28,true)⟩::⟨some 31,.ia 3 (.t 29) (.t 30),some (28,true)⟩::⟨some 32,.ld 3 true (.t 31),some (28,true)⟩::⟨some 33,.mv (.t 1),some (28,true)⟩::⟨some 34,.mv (.t 8),some (28,true)⟩::⟨some 35,.ia 3 (.t 33) (.t 34),some (28,true)⟩::⟨some 36,.ld 3 true (.t 35),some (28,true)⟩::[]) (⟨some 37,.call (.c (.fn 105 [])) [(.t 32),(.t 36)],some (28,true)⟩::⟨some 38,.pick (.t 28) (.t 37) (.c (.bool false)),none⟩::[])) (.cond (.t 38) .skip (.exit 2))) (.block 3 (.reg (⟨some 39,.mv (.t 9),none⟩::⟨some 40,.bin .add (.t 39) (.c (.int .i64 1)),none⟩::⟨some 9,.mv (.t 40),none⟩::[])))))) (.seq (.reg (⟨some 41,.mv (.t 1),none⟩::⟨some 42,.mv (.t 8),none⟩::⟨some 43,.ia 3 (.t 41) (.t 42),none⟩::⟨some 44,.fa 2 (.t 43),none⟩::⟨some 45,.ld 1 false (.t 44),none⟩::⟨some 46,.call (.c (.fn 106 [])) [(.t 45)],none⟩::⟨some 10,.al [.int .i64 0,.int .u64 0],none⟩::⟨none,.st 2 (.t 10) (.t 46),none⟩::[])) (.seq (.seq (.draw (⟨some 47,.mv (.t 9),none⟩::⟨some 48,.mv (.t 6),none⟩::⟨some 49,.ln (.t 48),none⟩::⟨some 50,.bin .lss (.t 47) (.t 49),none⟩::⟨some 51,.mv (.t 50),none⟩::⟨some 52,.mv (.t 1),some (51,true)⟩::⟨some 53,.mv (.t 8),some (51,true)⟩::⟨some 54,.ia 3 (.t 52) (.t 53),some (51,true)⟩::⟨some 55,.ld 3 true (.t 54),some (51,true)⟩::⟨some 56,.mv (.t 6),some (51,true)⟩::⟨some 57,.mv (.t 9),some (51,true)⟩::⟨some 58,.ia 3 (.t 56) (.t 57),some (51,true)⟩::⟨some 59,.ld 3 true (.t 58),some (51,true)⟩::[]) (⟨some 60,.call (.c (.fn 105 [])) [(.t 55),(.t 59)],some (51,true)⟩::⟨some 61,.un .not (.t 60),some (51,true)⟩::⟨some 62,.pick (.t 51) (.t 61) (.c (.bool false)),none⟩::[])) (.cond (.t 62) (.seq (.draw (⟨some 63,.mv (.t 7),none⟩::⟨some 64,.mv (.t 9),none⟩::⟨some 65,.mv (.t 0),none⟩::⟨some 66,.mv (.t 7),none⟩::⟨some 67,.mv (.t 9),none⟩::⟨some 68,.ia 2 (.t 66) (.t 67),none⟩::⟨some 69,.ld 2 true (.t 68),none⟩::⟨some 70,.ld 2 true (.t 10),none⟩::⟨some 71,.call (.c (.fn 107 [])) [(.t 65),(.t 69),(.t 70)],none⟩::[]) (⟨some 72,.ia 2 (.t 63) (.t 64),none⟩::⟨none,.st 2 (.t 72) (.t 71),none⟩::[])) (.exit 1)) .skip)) (.seq (.reg (⟨some 73,.mv (.t 6),none⟩::⟨some 74,.bld [.int .i64 0,.int .i64 0,.int .i64 0] [],none⟩::⟨some 75,.bsl 1 3 [.int .i64 0,.int .i64 0,.int .i64 0] [(0,(.t 74))],none⟩::⟨some 76,.ap 3 24 (.t 73) (.t 75),none⟩::⟨some 6,.mv (.t 76),none⟩::[])) (.seq (.reg (⟨some 77,.mv (.t 7),none⟩::⟨some 78,.bld [.int .i64 0,.int .u64 0] [],none⟩::⟨some 79,.bsl 1 2 [.int .i64 0,.int .u64 0] [(0,(.t 78))],none⟩::⟨some 80,.ap 2 16 (.t 77) (.t 79),none⟩::⟨some 7,.mv (.t 80),none⟩::[])) (.seq (.seq (.reg (⟨some 81,.mv (.t 6),none⟩::⟨some 82,.ln (.t 81),none⟩::⟨some 83,.bin .sub (.t 82) (.c (.int .i64 1)),none⟩::⟨some 11,.mv (.t 83),none⟩::[])) (.block 4 (.loop (.seq (.seq (.reg (⟨some 84,.mv (.t 11),none⟩::⟨some 85,.mv (.t 9),none⟩::⟨some 86,.bin .gtr (.t 84) (.t 85),none⟩::[])) (.cond (.t 86) .skip (.exit 4))) (.seq (.block 5 (.seq (.reg (⟨some 89,.mv (.t 6),none⟩::⟨some 90,.mv (.t 11),none⟩::⟨some 91,.mv (.t 6),none⟩::⟨some 92,.mv (.t 11),none⟩::⟨some 93,.bin .sub (.t 92) (.c (.int .i64 1)),none⟩::⟨some 94,.ia 3 (.t 91) (.t 93),none⟩::⟨some 95,.ld 3 true (.t 94),none⟩::⟨some 96,.ia 3 (.t 89) (.t 90),none⟩::⟨none,.st 3 (.t 96) (.t 95),none⟩::[])) (.reg (⟨some 97,.mv (.t 7),none⟩::⟨some 98,.mv (.t 11),none⟩::⟨some 99,.mv (.t 7),none⟩::⟨some 100,.mv (.t 11),none⟩::⟨some 101,.bin .sub (.t 100) (.c (.int .i64 1)),none⟩::⟨some 102,.ia 2 (.t 99) (.t 101),none⟩::⟨some 103,.ld 2 true (.t 102),none⟩::⟨some 104,.ia 2 (.t 97) (.t 98),none⟩::⟨none,.st 2 (.t 104) (.t 103),none⟩::[])))) (.reg (⟨some 87,.mv (.t 11),none⟩::⟨some 88,.bin .sub (.t 87) (.c (.int .i64 1)),none⟩::⟨some 11,.mv (.t 88),none⟩::[]))))))) (.seq (.draw (⟨some 105,.mv (.t 6),none⟩::⟨some 106,.mv (.t 9),none⟩::⟨some 107,.mv (.t 1),none⟩::⟨some 108,.mv (.t 8),none⟩::⟨some 109,.ia 3 (.t 107) (.t 108),none⟩::⟨some 110,.fa 0 (.t 109),none⟩::⟨some 111,.ld 1 false (.t 110),none⟩::⟨some 112,.mv (.t 1),none⟩::⟨some 113,.mv (.t 8),none⟩::⟨some 114,.ia 3 (.t 112) (.t 113),none⟩::⟨some 115,.fa 1 (.t 114),none⟩::⟨some 116,.ld 1 false (.t 115),none⟩::⟨some 117,.bld [.int .i64 0,.int .i64 0,.int .i64 0] [(0,1,(.t 111)),(1,1,(.t 116))],none⟩::[]) (⟨some 118,.ia 3 (.t 105) (.t 106),none⟩::⟨none,.st 3 (.t 118) (.t 117),none⟩::[])) (.reg (⟨some 119,.mv (.t 7),none⟩::⟨some 120,.mv (.t 9),none⟩::⟨some 121,.ld 2 true (.t 10),none⟩::⟨some 122,.ia 2 (.t 119) (.t 120),none⟩::⟨none,.st 2 (.t 122) (.t 121),none⟩::[]))))))))))) (.reg (⟨some 22,.mv (.t 8),none⟩::⟨some 23,.bin .add (.t 22) (.c (.int .i64 1)),none⟩::⟨some 8,.mv (.t 23),none⟩::[]))))))) (.seq (.seq (.reg (⟨some 12,.mv (.c (.int .i64 0)),none⟩::[])) (.block 6 (.loop (.seq (.seq (.reg (⟨some 123,.mv (.t 12),none⟩::⟨some 124,.mv (.t 6),none⟩::⟨some 125,.ln (.t 124),none⟩::⟨some 126,.bin .lss (.t 123) (.t 125),none⟩::[])) (.cond (.t 126) .skip (.exit 6))) (.seq (.block 7 (.seq (.reg (⟨some 130,.mv (.t 7),none⟩::⟨some 131,.mv (.t 12),none⟩::⟨some 132,.ia 2 (.t 130) (.t 131),none⟩::⟨some 133,.ld 2 true (.t 132),none⟩::⟨some 134,.call (.c (.fn 108 [])) [(.t 133)],none⟩::⟨some 129,.mv (.t 134),none⟩::⟨some 135,.ex 0 (.t 129),none⟩::⟨some 136,.ex 1 (.t 129),none⟩::⟨some 13,.mv (.t 135),none⟩::⟨some 14,.mv (.t 136),none⟩::[])) (.seq (.seq (.reg (⟨some 137,.mv (.t 14),none⟩::⟨some 138,.un .not (.t 137),none⟩::[])) (.cond (.t 138) (.seq (.reg (⟨some 4,.mv (.c (.nils)),none⟩::⟨some 5,.mv (.c (.int .i64 12)),none⟩::[])) .ret) .skip)) (.reg (⟨some 139,.mv (.t 6),none⟩::⟨some 140,.mv (.t 12),none⟩::⟨some 141,.mv (.t 13),none⟩::⟨some 142,.ia 3 (.t 139) (.t 140),none⟩::⟨some 143,.fa 2 (.t 142),none⟩::⟨none,.st 1 (.t 143) (.t 141),none⟩::[]))))) (.reg (⟨some 127,.mv (.t 12),none⟩::⟨some 128,.bin .add (.t 127) (.c (.int .i64 1)),none⟩::⟨some 12,.mv (.t 128),none⟩::[]))))))) (.seq (.reg (⟨some 144,.mv (.t 6),none⟩::⟨some 4,.mv (.t 144),none⟩::⟨some 5,.mv (.c (.int .i64 0)),none⟩::[])) .ret)))))))
theorem cd_fretworkref05_Combine : Code1 Tryz.prog 74 145 ir_fretworkref05_Combine [.t 4,.t 5]:=⟨Tryz.call74,_,_,Tryz.func74,rfl,by kernel_rfl,by kernel_rfl,by kernel_rfl,by kernel_rfl⟩
set_option maxHeartbeats 8000000 in
theorem fo_r5Combine (r : Int) (l : List (Int × Int × Int)) (hl : l.length <= 1000000) (hb : ∀ x ∈ l,I64 x.2.2) : FO Tryz.prog 74 [.int .i64 r,EL l] (.tup [.osl 0 3 0 (cmbR r l).1.length,.int .i64 (cmbR r l).2]) [.arr 3 (eds (cmbR r l).1)]:=by
  refine fo_of_cvc mixed cd_fretworkref05_Combine (by simp) ?_
  have c1:=fs_r2Is r
  have hll:=eds_len l
  obtain ⟨t,ht⟩ : ∃ t,cmbR r l = t:=⟨_,rfl⟩
  rw [ht]
  unfold cmbR at ht
  cases hR : isR r with
  | false =>
    rw [hR] at ht c1
    rw [if_neg (by simp)] at ht
    subst ht
    repeat' (conv=>whnf); first |(refine Or.inl ⟨by rfl,_,c1,?_⟩) | refine Br.tt ?_ | fail
    exact Or.inr (Or.inr (FoS.no (MatL.tup (.cons (.nil 0 3) (.cons (.same _ rfl) .nil))) rfl))
  | true =>
    rw [hR] at ht c1
    rw [if_pos rfl] at ht
    repeat' (conv=>whnf); first |(refine Or.inl ⟨by rfl,_,c1,?_⟩) | refine Br.ff ?_ | fail
    refine ⟨Nat × List (Int × Int × Int) × List Int,fun ⟨k,E,S⟩=>k <= l.length /\ (l.take k).foldl (cStep r) ([],[]) = (E,S) /\ E.length = S.length /\ E.length <= k /\ ∀ s ∈ S,W128 s,fun ⟨k,E,S⟩=>[(0,.int .i64 r),(1,EL l),(6,.osl 0 3 0 E.length),(7,.osl 1 2 0 S.length),(8,.int .i64 (k : Int))],fun ⟨k,E,S⟩=>[.arr 3 (eds E),.arr 2 (wds S)],fun _=>none,fun ⟨k,E,S⟩=>l.length - k,
      ⟨(0,[],[]),⟨Nat.zero_le _,rfl,rfl,Nat.le_refl _,by simp⟩,⟨rfl,rfl,⟨Nat.zero_le _,rfl,rfl⟩,⟨Nat.zero_le _,rfl,rfl⟩,rfl,trivial⟩,⟨rfl,rfl,trivial⟩,rfl⟩,fun ⟨k,E,S⟩ hk=>?_⟩
    obtain ⟨hk1,hk2,hk3,hk4,hk5⟩:=hk
    have hEl:=eds_len E
    have hSl:=wds_len S
    by_cases hkl : k < l.length
    . obtain ⟨x,hx⟩ : ∃ x,l.getD k (0,0,0) = x:=⟨_,rfl⟩
      have hxl : x ∈ l:=by rw [<- hx]; simp [hkl]
      have hp1:=cpos_le E x
      have cb1 : ∀ j,j < cpos E x -> FS Tryz.prog 105 [EA (E.getD j (0,0,0)),EA x] (.bool true):=fun j h=>by
        have:=fs_r5below (E.getD j (0,0,0)).1 (E.getD j (0,0,0)).2.1 (E.getD j (0,0,0)).2.2 x.1 x.2.1 x.2.2
        rwa [show bel _ _ = true from cpos_lt h] at this
      have cb2 : cpos E x < E.length -> FS Tryz.prog 105 [EA (E.getD (cpos E x) (0,0,0)),EA x] (.bool false):=fun h=>by
        have:=fs_r5below (E.getD (cpos E x) (0,0,0)).1 (E.getD (cpos E x) (0,0,0)).2.1 (E.getD (cpos E x) (0,0,0)).2.2 x.1 x.2.1 x.2.2
        rwa [show bel _ _ = false from cpos_at h] at this
      have cb3:=fs_r5below x.1 x.2.1 x.2.2 (E.getD (cpos E x) (0,0,0)).1 (E.getD (cpos E x) (0,0,0)).2.1 (E.getD (cpos E x) (0,0,0)).2.2
      have c2:=fs_r1Of x.2.2 (hb x hxl)
      have hsw : W128 (S.getD (cpos E x) 0):=by
        by_cases hp : cpos E x < S.length
        . have : S.getD (cpos E x) 0 = S[cpos E x]:=by simp [hp]
          rw [this]; exact hk5 _ (List.getElem_mem hp)
        . have : S.getD (cpos E x) 0 = 0:=by simp [List.getElem?_eq_none (show S.length <= cpos E x by omega)]
          rw [this]; exact W64i (by unfold I64; omega)
      have c3:=fs_r2Add r (S.getD (cpos E x) 0) x.2.2 hsw (W64i (hb x hxl))
      have hst : (l.take (k + 1)).foldl (cStep r) ([],[]) = cStep r (E,S) x:=by
        rw [List.take_add_one,List.foldl_append,hk2]
        simp [show l[k]? = some x by rw [<- hx]; simp [hkl]]
      have hsl:=cStep_len r hk3 x
      have hsw5:=cStep_w r hk5 (E:=E) (hb x hxl)
      repeat' (conv=>whnf); first |(refine Br.dec (fun h=>?_) (fun h=>?_)) <;> try (exfalso; omega) | refine And.intro rfl ?_ | fail
      refine ⟨Nat,fun j=>j <= cpos E x,fun j=>[(0,.int .i64 r),(1,EL l),(6,.osl 0 3 0 E.length),(7,.osl 1 2 0 S.length),(8,.int .i64 (k : Int)),(9,.int .i64 (j : Int))],fun j=>[.arr 3 (eds E),.arr 2 (wds S)],fun _=>none,fun j=>E.length - j,⟨0,Nat.zero_le _,⟨rfl,rfl,rfl,rfl,rfl,rfl,trivial⟩,⟨rfl,rfl,trivial⟩,rfl⟩,fun j hj=>?_⟩
      have hj : j <= cpos E x:=hj
      by_cases hjp : j < cpos E x
      . repeat' (conv=>whnf); first |(refine eds_is' (i:=k) (by omega) hx ?_) |(refine ⟨_,eds_at E (j:=j) (by omega) (by omega),?_⟩) |(refine Or.inl ⟨by rfl,_,cb1 j hjp,?_⟩) | refine Br.tt ?_ |(refine Br.dec (fun h=>?_) (fun h=>?_)) <;> try (exfalso; omega) | refine And.intro rfl ?_ |(refine And.intro (by omega) ?_) |(refine ⟨_,Or.inl ⟨⟨by omega,by omega⟩,rfl⟩,?_⟩) |(refine And.intro (by simp only [lens_all]; first | done | omega) ?_) | fail
        exact ⟨j + 1,(show j + 1 <= cpos E x by omega),(show E.length - (j + 1) < E.length - j by omega),⟨rfl,rfl,rfl,rfl,rfl,rfl,trivial⟩,⟨rfl,rfl,trivial⟩,rfl⟩
      . obtain rfl : j = cpos E x:=by omega
        obtain ⟨b3,hb3⟩ : ∃ b,bel x (E.getD (cpos E x) (0,0,0)) = b:=⟨_,rfl⟩
        rw [show bel (x.1,x.2.1,x.2.2) _ = b3 from hb3] at cb3
        by_cases hs : cpos E x < E.length /\ b3 = false
        . obtain ⟨hs1,rfl⟩:=hs
          have hcs : cStep r (E,S) x = (E,S.set (cpos E x) (rAdd r (S.getD (cpos E x) 0) x.2.2)):=if_pos ⟨hs1,hb3⟩
          rw [hcs] at hst hsl hsw5
          repeat' (conv=>whnf); first |(refine eds_is' (i:=k) (by omega) hx ?_) |(refine ⟨_,eds_at E (j:=cpos E x) (by omega) (by omega),?_⟩) |(refine ⟨_,wds_at S (j:=cpos E x) (by omega) (by omega),?_⟩) |(refine Or.inl ⟨by rfl,_,cb2 (by omega),?_⟩) |(refine Or.inl ⟨by rfl,_,cb3,?_⟩) |(refine Or.inl ⟨by rfl,_,c2,?_⟩) |(refine Or.inl ⟨by rfl,_,c3,?_⟩) | refine Br.tt ?_ | refine Br.ff ?_ |(refine Br.dec (fun h=>?_) (fun h=>?_)) <;> try (exfalso; omega) | refine And.intro rfl ?_ |(refine And.intro (by omega) ?_) |(refine ⟨_,Or.inl ⟨⟨by omega,by omega⟩,rfl⟩,?_⟩) |(refine And.intro (by simp only [lens_all]; first | done | omega) ?_) | fail
          refine ⟨(k + 1,E,S.set (cpos E x) (rAdd r (S.getD (cpos E x) 0) x.2.2)),⟨by omega,hst,hsl.1,by omega,hsw5⟩,(show l.length - (k + 1) < l.length - k by omega),⟨rfl,rfl,rfl,?_,rfl,trivial⟩,⟨rfl,?_,⟨Nat.zero_le _,rfl,rfl⟩⟩,rfl⟩
          . exact congrArg (SV.osl 1 2 0) (by simp)
          . refine congrArg (Blk.arr 2) ?_
            rw [<- wds_set,show 0 + ((cpos E x : Nat) : Int).toNat = cpos E x by omega]; rfl
        . have hs1 : cpos E x < E.length -> b3 = true:=fun h=>by cases b3; exact absurd ⟨h,rfl⟩ hs; rfl
          have hcs : cStep r (E,S) x = (E.take (cpos E x) ++ (x.1,x.2.1,0)::E.drop (cpos E x),S.take (cpos E x) ++ x.2.2::S.drop (cpos E x)):=if_neg fun h=>hs ⟨h.1,hb3.symm.trans h.2⟩
          rw [hcs] at hst hsl hsw5
          have hb3' : ¬ cpos E x < E.length \/ b3 = true:=by
            by_cases h : cpos E x < E.length
            . exact .inr (hs1 h)
            . exact .inl h
          rcases hb3' with hpl | rfl
          all_goals
            repeat' (conv=>whnf); first |(refine eds_is' (i:=k) (by omega) hx ?_) |(refine ⟨_,eds_at E (j:=cpos E x) (by omega) (by omega),?_⟩) |(refine Or.inl ⟨by rfl,_,cb2 (by omega),?_⟩) |(refine Or.inl ⟨by rfl,_,cb3,?_⟩) |(refine Or.inl ⟨by rfl,_,c2,?_⟩) |((refine ⟨_,Or.inl ⟨⟨by simp only [List.length_set,List.length_replicate]; omega,by simp only [List.length_set,List.length_replicate]; omega⟩,rfl⟩,?_⟩)) |(refine And.intro (Or.inl (Nat.zero_le _)) ?_) |((refine And.intro (by intro y hy; simp at hy; subst hy; rfl) ?_)) | refine Br.tt ?_ | refine Br.ff ?_ |(refine Br.dec (fun h=>?_) (fun h=>?_)) <;> try (exfalso; omega) | refine And.intro rfl ?_ |(refine And.intro (by omega) ?_) |(refine And.intro (by simp only [lens_all]; first | done | omega) ?_) | fail
          all_goals
            try clear hpl
            refine ⟨Nat,fun j=>cpos E x <= j /\ j <= E.length,fun j=>[(0,.int .i64 r),(1,EL l),(6,.osl 0 3 0 (E.length + 1)),(7,.osl 1 2 0 (S.length + 1)),(8,.int .i64 (k : Int)),(9,.int .i64 (cpos E x : Int)),(10,.ptr 2 0 0 0),(11,.int .i64 (j : Int))],fun j=>[.arr 3 (eds (sh E (0,0,0) j)),.arr 2 (wds (sh S 0 j)),.vars [.int .i64 (hi x.2.2),.int .u64 (lo x.2.2)]],fun _=>none,fun j=>j,⟨E.length,⟨hp1,Nat.le_refl _⟩,⟨rfl,rfl,?_,?_,rfl,rfl,rfl,?_,trivial⟩,⟨?_,?_,⟨rfl,rfl,trivial⟩,trivial⟩,rfl⟩,fun j hj=>?_⟩
            . exact congrArg (SV.osl 0 3 0) (by simp)
            . exact congrArg (SV.osl 1 2 0) (by simp)
            . refine congrArg (SV.int .i64) ?_
              simp only [List.length_set,List.length_replicate]; omega
            . refine congrArg (Blk.arr 3) ?_
              rw [sh_top,eds_append]; rfl
            . refine congrArg (Blk.arr 2) ?_
              rw [hk3,sh_top,wds_append,wds_zero]; rfl
            obtain ⟨hj1,hj2⟩:=hj
            have hle:=sh_len E (0,0,0) hj2
            have hls:=sh_len S 0 (k:=j) (by omega)
            by_cases hjp : cpos E x < j
            . repeat' (conv=>whnf); first |(refine ⟨_,eds_at (sh E (0,0,0) j) (j:=j - 1) (by omega) (by omega),?_⟩) |(refine ⟨_,wds_at (sh S 0 j) (j:=j - 1) (by omega) (by omega),?_⟩) |(refine ⟨_,eds_at (sh E (0,0,0) j) (j:=j) (by omega) (by omega),?_⟩) |(refine ⟨_,wds_at (sh S 0 j) (j:=j) (by omega) (by omega),?_⟩) |(refine Br.dec (fun h=>?_) (fun h=>?_)) <;> try (exfalso; omega) | refine And.intro rfl ?_ |(refine And.intro (by omega) ?_) |(refine ⟨_,Or.inl ⟨⟨by omega,by omega⟩,rfl⟩,?_⟩) |(refine And.intro (by simp only [lens_all]; first | done | omega) ?_) | fail
              all_goals
                refine ⟨j - 1,⟨by omega,by omega⟩,(show j - 1 < j by omega),⟨rfl,rfl,rfl,rfl,rfl,rfl,rfl,?_,trivial⟩,⟨?_,?_,⟨rfl,rfl,trivial⟩,trivial⟩,rfl⟩
                . refine congrArg (SV.int .i64) ?_; omega
                . refine congrArg (Blk.arr 3) ?_
                  rw [<- sh_step E (0,0,0) (0,0,0) hj2 (by omega),<- sh_get E (0,0,0) (0,0,0) hj2 (by omega),<- eds_set,show 0 + ((j : Nat) : Int).toNat = j by omega]; rfl
                . refine congrArg (Blk.arr 2) ?_
                  rw [<- sh_step S 0 0 (k:=j) (by omega) (by omega),<- sh_get S 0 0 (k:=j) (by omega) (by omega),<- wds_set,show 0 + ((j : Nat) : Int).toNat = j by omega]; rfl
            . obtain rfl : j = cpos E x:=by omega
              repeat' (conv=>whnf); first |(refine eds_is' (i:=k) (by omega) hx ?_) |(refine ⟨_,eds_at (sh E (0,0,0) (cpos E x)) (j:=cpos E x) (by omega) (by omega),?_⟩) |(refine ⟨_,wds_at (sh S 0 (cpos E x)) (j:=cpos E x) (by omega) (by omega),?_⟩) |(refine And.intro (show _ <= _ from Nat.le_of_ble_eq_true rfl) ?_) |(refine Br.dec (fun h=>?_) (fun h=>?_)) <;> try (exfalso; omega) | refine And.intro rfl ?_ |(refine And.intro (by omega) ?_) |(refine ⟨_,Or.inl ⟨⟨by omega,by omega⟩,rfl⟩,?_⟩) | fail
              refine ⟨(k + 1,E.take (cpos E x) ++ (x.1,x.2.1,0)::E.drop (cpos E x),S.take (cpos E x) ++ x.2.2::S.drop (cpos E x)),⟨by omega,hst,hsl.1,Nat.le_trans hsl.2 (by omega),hsw5⟩,(show l.length - (k + 1) < l.length - k by omega),⟨rfl,rfl,?_,?_,rfl,trivial⟩,⟨?_,?_,⟨Nat.zero_le _,rfl,rfl⟩⟩,rfl⟩
              . refine congrArg (SV.osl 0 3 0) ?_; simp; omega
              . refine congrArg (SV.osl 1 2 0) ?_; simp; omega
              . refine congrArg (Blk.arr 3) ?_
                rw [<- sh_end E (0,0,0) _ hp1,<- eds_set,show 0 + ((cpos E x : Nat) : Int).toNat = cpos E x by omega]; rfl
              . refine congrArg (Blk.arr 2) ?_
                rw [<- sh_end S 0 _ (k:=cpos E x) (by omega),<- wds_set,show 0 + ((cpos E x : Nat) : Int).toNat = cpos E x by omega]; rfl
    . obtain rfl : k = l.length:=by omega
      rw [List.take_length] at hk2
      have hcm : cmb r l = (E,S):=hk2
      rw [hcm] at ht
      repeat' (conv=>whnf); first |(refine Br.dec (fun h=>?_) (fun h=>?_)) <;> try (exfalso; omega) | refine And.intro rfl ?_ | fail
      refine ⟨Nat,fun j=>j <= E.length /\ ∀ i,i < j -> fits (S.getD i 0) = true,fun j=>[(0,.int .i64 r),(1,EL l),(6,.osl 0 3 0 E.length),(7,.osl 1 2 0 S.length),(12,.int .i64 (j : Int))],fun j=>[.arr 3 (eds (nrE E S j)),.arr 2 (wds S)],fun _=>none,fun j=>E.length - j,⟨0,⟨Nat.zero_le _,by omega⟩,⟨rfl,rfl,rfl,rfl,rfl,trivial⟩,⟨?_,rfl,trivial⟩,rfl⟩,fun j hj=>?_⟩
      . exact congrArg (fun l=>Blk.arr 3 (eds l)) (nrE_zero E S).symm
      obtain ⟨hj1,hj2⟩:=hj
      have hnl:=nrE_len E S j
      by_cases hjl : j < E.length
      . have hsw : W128 (S.getD j 0):=by
          have : S.getD j 0 = S[j]:=by simp [show j < S.length by omega]
          rw [this]; exact hk5 _ (List.getElem_mem _)
        have c4:=fs_r1Narrow (S.getD j 0) hsw
        obtain ⟨f,hf⟩ : ∃ f,fits (S.getD j 0) = f:=⟨_,rfl⟩
        rw [hf] at c4
        cases f
        . repeat' (conv=>whnf); first |(refine ⟨_,wds_at S (j:=j) (by omega) (by omega),?_⟩) |(refine Or.inl ⟨by rfl,_,c4,?_⟩) | refine Br.tt ?_ |(refine Br.dec (fun h=>?_) (fun h=>?_)) <;> try (exfalso; omega) | refine And.intro rfl ?_ |(refine And.intro (by omega) ?_) |(refine And.intro (by simp only [lens_all]; first | done | omega) ?_) | fail
          have hall : ¬ S.all fits = true:=fun h=>by
            rw [List.all_eq_true] at h
            have:=h S[j] (List.getElem_mem (by omega))
            have h2 : S.getD j 0 = S[j]:=by simp [show j < S.length by omega]
            rw [<- h2,hf] at this
            cases this
          rw [if_neg hall] at ht
          subst ht
          exact Or.inr (Or.inr (FoS.no (MatL.tup (.cons (.nil 0 3) (.cons (.same _ rfl) .nil))) rfl))
        . repeat' (conv=>whnf); first |(refine ⟨_,wds_at S (j:=j) (by omega) (by omega),?_⟩) |(refine ⟨_,eds_at (nrE E S j) (j:=j) (by omega) (by omega),?_⟩) |(refine Or.inl ⟨by rfl,_,c4,?_⟩) | refine Br.ff ?_ |(refine Br.dec (fun h=>?_) (fun h=>?_)) <;> try (exfalso; omega) | refine And.intro rfl ?_ |(refine And.intro (by omega) ?_) |(refine ⟨_,Or.inl ⟨⟨by omega,by omega⟩,rfl⟩,?_⟩) |(refine And.intro (by simp only [lens_all]; first | done | omega) ?_) | fail
          refine ⟨j + 1,⟨by omega,fun i hi=>?_⟩,(show E.length - (j + 1) < E.length - j by omega),⟨rfl,rfl,rfl,rfl,rfl,trivial⟩,⟨?_,rfl,trivial⟩,rfl⟩
          . rcases Nat.lt_or_ge i j with h' | h'
            . exact hj2 i h'
            . obtain rfl : i = j:=by omega
              exact hf
          . refine congrArg (Blk.arr 3) ?_
            rw [<- nrE_set E S hjl,<- eds_set,show 0 + ((j : Nat) : Int).toNat = j by omega,nrE_get E S j hjl]
            rfl
      . obtain rfl : j = E.length:=by omega
        have hall : S.all fits = true:=by
          rw [List.all_eq_true]
          intro s hs
          obtain ⟨i,hi,rfl⟩:=List.mem_iff_getElem.1 hs
          have:=hj2 i (by omega)
          simpa [hi] using this
        rw [if_pos hall] at ht
        subst ht
        repeat' (conv=>whnf); first |(refine Br.dec (fun h=>?_) (fun h=>?_)) <;> try (exfalso; omega) | refine And.intro rfl ?_ | fail
        refine Or.inr (Or.inr ?_)
        show FoS _ (.tup [.osl 0 3 0 E.length,.int .i64 0]) (.tup [.osl 0 3 0 (nrE E S E.length).length,.int .i64 0]) [.arr 3 (eds (nrE E S E.length))]
        rw [hnl]
        exact FoS.one 0 (MatL.tup (.cons (.osl 0 0 3 0 _ rfl) (.cons (.same _ rfl) .nil))) rfl rfl
end
end Go.Proofs.YtelbhbadkbcakaaGreat
