/- Matrices by rows: which are right (plain). Matrices by rows: Right of both. Matrices by rows: the document's Right, Empty, Sure; the program's, for those that cannot be. -/
import Derived.Test.YtelbhbadkbcakaaGreatD3
namespace Go.Proofs.YtelbhbadkbcakaaGreat
section
open Go.RowKit
attribute [local irreducible] FS FO IT HS
def MX (rows cols : Int) (st col val : List Int) : SV:=.agg [.int .i64 rows,.int .i64 cols,Z st,Z col,Z val]
def allN (n : Nat) (p : Nat -> Bool) : Bool:=(List.range n).all p
theorem allN_iff {n : Nat} {p : Nat -> Bool} : allN n p = true ↔ ∀ i,i < n -> p i = true:=by simp [allN]
theorem allN_yes {n : Nat} {p : Nat -> Bool} (h : allN n p = true) (hp : p n = true) : allN (n + 1) p = true:=by
  rw [allN_iff] at h ⊢
  intro i hi
  rcases Nat.lt_or_ge i n with h' | h'
  . exact h i h'
  . obtain rfl : i = n:=by omega
    exact hp
theorem allN_no {n i : Nat} {p : Nat -> Bool} (h : i < n) (hp : p i = false) : allN n p = false:=by
  rw [Bool.eq_false_iff]
  intro h'
  rw [allN_iff.1 h' i h] at hp; cases hp
theorem allN_congr {n : Nat} {p q : Nat -> Bool} (h : ∀ i,i < n -> p i = q i) : allN n p = allN n q:=by
  rw [Bool.eq_iff_iff,allN_iff,allN_iff]
  exact ⟨fun h' i hi=>by rw [<- h i hi]; exact h' i hi,fun h' i hi=>by rw [h i hi]; exact h' i hi⟩
def colB (col : List Int) (cols : Int) (k j : Nat) : Bool:=decide (0 <= col.getD k 0) && (decide (col.getD k 0 < cols) && (decide (j = 0) || decide (col.getD (k - 1) 0 < col.getD k 0)))
def rowB (st col : List Int) (cols : Int) (i : Nat) : Bool:=decide (0 <= st.getD i 0) && (decide (st.getD i 0 <= st.getD (i + 1) 0) && (decide (st.getD (i + 1) 0 <= col.length) && allN (st.getD (i + 1) 0 - st.getD i 0).toNat fun j=>colB col cols ((st.getD i 0).toNat + j) j))
def mA (rows cols : Int) (st col val : List Int) : Bool:=decide (0 <= rows /\ rows <= 4096 /\ 0 <= cols /\ cols <= 4096 /\ (st.length : Int) = rows + 1 /\ col.length = val.length /\ col.length <= 65536)
def mB (rows : Int) (st col : List Int) : Bool:=decide (st.getD 0 0 = 0 /\ st.getD rows.toNat 0 = col.length)
def mR (rows cols : Int) (st col val : List Int) : Bool:=mA rows cols st col val && (mB rows st col && allN rows.toNat (rowB st col cols))
structure OkM (rows cols : Int) (st col val : List Int) : Prop where
  r0 : 0 <= rows
  r1 : rows <= 4096
  c0 : 0 <= cols
  c1 : cols <= 4096
  sl : (st.length : Int) = rows + 1
  vl : col.length = val.length
  nl : col.length <= 65536
  s0 : st.getD 0 0 = 0
  sn : st.getD rows.toNat 0 = col.length
  row : ∀ i,i < rows.toNat -> rowB st col cols i = true
theorem okM_of {rows cols : Int} {st col val : List Int} (h : mR rows cols st col val = true) : OkM rows cols st col val:=by
  unfold mR mA mB at h
  simp only [Bool.and_eq_true,decide_eq_true_eq] at h
  obtain ⟨⟨h1,h2,h3,h4,h5,h6,h7⟩,⟨h8,h9⟩,h10⟩:=h
  exact ⟨h1,h2,h3,h4,h5,h6,h7,h8,h9,allN_iff.1 h10⟩
section
variable {rows cols : Int} {st col val : List Int}
theorem OkM.mA (h : OkM rows cols st col val) : mA rows cols st col val = true:=by
  unfold Go.Proofs.YtelbhbadkbcakaaGreat.mA
  rw [decide_eq_true_eq]
  exact ⟨h.r0,h.r1,h.c0,h.c1,h.sl,h.vl,h.nl⟩
theorem OkM.right (h : OkM rows cols st col val) : mR rows cols st col val = true:=by
  unfold mR mB
  rw [h.mA,Bool.true_and,Bool.and_eq_true,decide_eq_true_eq]
  exact ⟨⟨h.s0,h.sn⟩,allN_iff.2 h.row⟩
theorem rowB_iff {i : Nat} : rowB st col cols i = true ↔ 0 <= st.getD i 0 /\ st.getD i 0 <= st.getD (i + 1) 0 /\ st.getD (i + 1) 0 <= col.length /\ ∀ j,j < (st.getD (i + 1) 0 - st.getD i 0).toNat -> colB col cols ((st.getD i 0).toNat + j) j = true:=by
  unfold rowB
  rw [Bool.and_eq_true,Bool.and_eq_true,Bool.and_eq_true,decide_eq_true_eq,decide_eq_true_eq,decide_eq_true_eq,allN_iff]
theorem colB_iff {k j : Nat} : colB col cols k j = true ↔ 0 <= col.getD k 0 /\ col.getD k 0 < cols /\ (j = 0 \/ col.getD (k - 1) 0 < col.getD k 0):=by
  unfold colB
  rw [Bool.and_eq_true,Bool.and_eq_true,Bool.or_eq_true,decide_eq_true_eq,decide_eq_true_eq,decide_eq_true_eq,decide_eq_true_eq]
theorem OkM.at (h : OkM rows cols st col val) {i : Nat} (hi : (i : Int) < rows) : 0 <= st.getD i 0 /\ st.getD i 0 <= st.getD (i + 1) 0 /\ st.getD (i + 1) 0 <= col.length:=by
  have:=rowB_iff.1 (h.row i (by omega))
  exact ⟨this.1,this.2.1,this.2.2.1⟩
theorem OkM.cel (h : OkM rows cols st col val) {i k : Nat} (hi : (i : Int) < rows) (h1 : st.getD i 0 <= k) (h2 : (k : Int) < st.getD (i + 1) 0) : 0 <= col.getD k 0 /\ col.getD k 0 < cols /\ (st.getD i 0 = k \/ col.getD (k - 1) 0 < col.getD k 0):=by
  have:=rowB_iff.1 (h.row i (by omega))
  have hc:=colB_iff.1 (this.2.2.2 (k - (st.getD i 0).toNat) (by omega))
  rw [show (st.getD i 0).toNat + (k - (st.getD i 0).toNat) = k by omega] at hc
  exact ⟨hc.1,hc.2.1,hc.2.2.imp (fun h=>by omega) id⟩
theorem okM_zero : OkM 0 0 [0] [] []:=by
  refine ⟨by omega,by omega,by omega,by omega,rfl,rfl,by simp,rfl,rfl,fun i hi=>?_⟩
  simp at hi
def mS (rows cols : Int) (st col val : List Int) : Int × Int × List Int × List Int × List Int:=if mR rows cols st col val = true then (rows,cols,st,col,val) else (0,0,[0],[],[])
def MV (m : Int × Int × List Int × List Int × List Int) : SV:=MX m.1 m.2.1 m.2.2.1 m.2.2.2.1 m.2.2.2.2
def OkV' (m : Int × Int × List Int × List Int × List Int) : Prop:=OkM m.1 m.2.1 m.2.2.1 m.2.2.2.1 m.2.2.2.2
theorem okM_mS (rows cols : Int) (st col val : List Int) : OkV' (mS rows cols st col val):=by
  unfold mS
  split
  . rename_i h; exact okM_of h
  . exact okM_zero
theorem OkM.mS (h : OkM rows cols st col val) : mS rows cols st col val = (rows,cols,st,col,val):=if_pos h.right
end
def srtB (l : List Int) : Bool:=allN (l.length - 1) fun i=>decide (l.getD i 0 <= l.getD (i + 1) 0)
def riseL (cols : Int) (l : List Int) : Bool:=allN l.length fun j=>colB l cols j j
theorem getD_slice {l : List Int} {a b j : Nat} (hj : j < b - a) : ((l.take b).drop a).getD j 0 = l.getD (a + j) 0:=by
  rw [List.getD_eq_getElem?_getD,List.getD_eq_getElem?_getD,List.getElem?_drop,List.getElem?_take_of_lt (by omega)]
theorem riseL_slice {col : List Int} {cols : Int} {a b : Nat} (hab : a <= b) (hb : b <= col.length) : riseL cols ((col.take b).drop a) = allN (b - a) fun j=>colB col cols (a + j) j:=by
  unfold riseL
  rw [show ((col.take b).drop a).length = b - a by simp; omega]
  refine allN_congr fun j hj=>?_
  unfold colB
  rw [getD_slice hj]
  by_cases h : j = 0
  . subst h; rfl
  . rw [getD_slice (show j - 1 < b - a by omega),show a + (j - 1) = a + j - 1 by omega]
theorem srtB_iff {l : List Int} : srtB l = true ↔ ∀ i,i + 1 < l.length -> l.getD i 0 <= l.getD (i + 1) 0:=by
  unfold srtB
  rw [allN_iff]
  constructor
  . intro h i hi; simpa using h i (by omega)
  . intro h i hi; simpa using h i (by omega)
theorem srt_le {l : List Int} (h : srtB l = true) {i j : Nat} (hij : i <= j) (hj : j < l.length) : l.getD i 0 <= l.getD j 0:=by
  induction j with
  | zero => obtain rfl : i = 0 := by omega
            exact Int.le_refl _
  | succ j ih =>
    by_cases e : i = j + 1
    . subst e; exact Int.le_refl _
    . exact Int.le_trans (ih (by omega) (by omega)) (srtB_iff.1 h j hj)
theorem srt_no {rows cols : Int} {st col : List Int} (hl : (st.length : Int) = rows + 1) (h : srtB st = false) : allN rows.toNat (rowB st col cols) = false:=by
  rw [Bool.eq_false_iff] at h ⊢
  intro h'
  refine h (srtB_iff.2 fun i hi=>?_)
  exact (rowB_iff.1 (allN_iff.1 h' i (by omega))).2.1
end
section
open Go.RowKit
attribute [local irreducible] FS FO IT HS
theorem Br.dand {p : Prop} [Decidable p] {q : Bool} {T F : Prop} (h : p -> Br q T F) (k : ¬ p -> F) : Br (decide p && q) T F:=by
  by_cases hp : p
  . rw [decide_eq_true hp,Bool.true_and]; exact h hp
  . rw [decide_eq_false hp,Bool.false_and]; exact Br.ff (k hp)
def ir_csr_within : IR :=
(.seq (.reg (⟨some 4,.mv (.c (.bool false)),none⟩::[])) (.seq (.reg (⟨some 5,.mv (.t 0),none⟩::⟨some 6,.bin .geq (.t 5) (.c (.int .i64 0)),none⟩::⟨some 7,.mv (.t 6),none⟩::⟨some 8,.mv (.t 0),some (7,true)⟩::⟨some 9,.mv (.t 1),some (7,true)⟩::⟨some 10,.bin .leq (.t 8) (.t 9),some (7,true)⟩::⟨some 11,.pick (.t 7) (.t 10) (.c (.bool false)),none⟩::⟨some 4,.mv (.t 11),none⟩::[])) .ret))
theorem cd_csr_within : Code1 Tryz.prog 43 12 ir_csr_within [.t 4]:=⟨Tryz.call43,_,_,Tryz.func43,rfl,by kernel_rfl,by kernel_rfl,by kernel_rfl,by kernel_rfl⟩
theorem fs_cwithin (n m : Int) : FS Tryz.prog 43 [.int .i64 n,.int .i64 m] (.bool (decide (0 <= n) && decide (n <= m))):=by
  refine fs_of_cvc mixed cd_csr_within (by simp) ?_
  repeat' (conv=>whnf); first | refine Br.tt ?_ | refine Br.ff ?_ |(refine Br.dec (fun h=>?_) (fun h=>?_)) <;> try (exfalso; omega) | refine And.intro rfl ?_ | fail
  all_goals (show SV.bool _ = SV.bool _; simp [*])
def ir_cmp_Less_int : IR :=
(.seq (.reg (⟨some 4,.mv (.c (.bool false)),none⟩::[])) (.seq (.reg (⟨some 5,.mv (.t 0),none⟩::⟨some 6,.call (.c (.fn 109 [])) [(.t 5)],none⟩::⟨some 7,.mv (.t 6),none⟩::⟨some 8,.mv (.t 1),some (7,true)⟩::⟨some 9,.call (.c (.fn 109 [])) [(.t 8)],some (7,true)⟩::⟨some 10,.un .not (.t 9),some (7,true)⟩::⟨some 11,.pick (.t 7) (.t 10) (.c (.bool false)),none⟩::⟨some 12,.mv (.t 11),none⟩::⟨some 13,.mv (.t 0),some (12,false)⟩::⟨some 14,.mv (.t 1),some (12,false)⟩::⟨some 15,.bin .lss (.t 13) (.t 14),some (12,false)⟩::⟨some 16,.pick (.t 12) (.c (.bool true)) (.t 15),none⟩::⟨some 4,.mv (.t 16),none⟩::[])) .ret))
theorem cd_cmp_Less_int : Code1 Tryz.prog 76 17 ir_cmp_Less_int [.t 4]:=⟨Tryz.call76,_,_,Tryz.func76,rfl,by kernel_rfl,by kernel_rfl,by kernel_rfl,by kernel_rfl⟩
theorem fs_cLess (a b : Int) : FS Tryz.prog 76 [.int .i64 a,.int .i64 b] (.bool (decide (a < b))):=by
  refine fs_of_cvc mixed cd_cmp_Less_int (by simp) ?_
  repeat' (conv=>whnf); first |(refine Or.inl ⟨by rfl,_,fs_nan a,?_⟩) | refine Br.ff ?_ | refine And.intro rfl ?_ | fail
  all_goals exact rfl
def ir_slices_IsSorted_int_int : IR :=
(.seq (.reg (⟨some 2,.mv (.c (.bool false)),none⟩::[])) (.seq (.seq (.reg (⟨some 4,.mv (.t 0),none⟩::⟨some 5,.ln (.t 4),none⟩::⟨some 6,.bin .sub (.t 5) (.c (.int .i64 1)),none⟩::⟨some 3,.mv (.t 6),none⟩::[])) (.block 0 (.loop (.seq (.seq (.reg (⟨some 7,.mv (.t 3),none⟩::⟨some 8,.bin .gtr (.t 7) (.c (.int .i64 0)),none⟩::[])) (.cond (.t 8) .skip (.exit 0))) (.seq (.block 1 (.seq (.draw (⟨some 11,.mv (.t 0),none⟩::⟨some 12,.mv (.t 3),none⟩::⟨some 13,.ia 1 (.t 11) (.t 12),none⟩::⟨some 14,.ld 1 false (.t 13),none⟩::⟨some 15,.mv (.t 0),none⟩::⟨some 16,.mv (.t 3),none⟩::⟨some 17,.bin .sub (.t 16) (.c (.int .i64 1)),none⟩::⟨some 18,.ia 1 (.t 15) (.t 17),none⟩::⟨some 19,.ld 1 false (.t 18),none⟩::[]) (⟨some 20,.call (.c (.fn 76 [])) [(.t 14),(.t 19)],none⟩::[])) (.cond (.t 20) (.seq (.reg (⟨some 2,.mv (.c (.bool false)),none⟩::[])) .ret) .skip))) (.reg (⟨some 9,.mv (.t 3),none⟩::⟨some 10,.bin .sub (.t 9) (.c (.int .i64 1)),none⟩::⟨some 3,.mv (.t 10),none⟩::[]))))))) (.seq (.reg (⟨some 2,.mv (.c (.bool true)),none⟩::[])) .ret)))
theorem cd_slices_IsSorted_int_int : Code1 Tryz.prog 44 21 ir_slices_IsSorted_int_int [.t 2]:=⟨Tryz.call44,_,_,Tryz.func44,rfl,by kernel_rfl,by kernel_rfl,by kernel_rfl,by kernel_rfl⟩
theorem fs_IsSorted (l : List Int) (hl : l.length <= 1000000000) : FS Tryz.prog 44 [Z l] (.bool (srtB l)):=by
  refine fs_of_cvc mixed cd_slices_IsSorted_int_int (by simp) ?_
  have hzl:=zs_len l
  obtain ⟨t,ht⟩ : ∃ t,srtB l = t:=⟨_,rfl⟩
  rw [ht]
  repeat' (conv=>whnf); first | refine And.intro rfl ?_ |(refine ⟨_,Or.inl ⟨⟨by omega,by omega⟩,rfl⟩,?_⟩) | fail
  refine ⟨Nat,fun k=>k <= l.length /\ ∀ i,k <= i + 1 -> i + 1 < l.length -> l.getD i 0 <= l.getD (i + 1) 0,fun k=>[(0,Z l),(3,.int .i64 ((k : Int) - 1))],fun k=>[],fun _=>none,fun k=>k,⟨l.length,⟨Nat.le_refl _,fun i h1 h2=>by omega⟩,⟨rfl,?_,trivial⟩,trivial,rfl⟩,fun k hk=>?_⟩
  . show SV.int .i64 (((zs l).length : Int) - 1) = _
    rw [hzl]
  obtain ⟨hk1,hk2⟩:=hk
  by_cases h1 : 2 <= k
  . obtain ⟨p,hp⟩ : ∃ p,l.getD (k - 1) 0 = p:=⟨_,rfl⟩
    obtain ⟨q,hq⟩ : ∃ q,l.getD (k - 2) 0 = q:=⟨_,rfl⟩
    have c:=fs_cLess p q
    by_cases h2 : p < q
    . rw [decide_eq_true h2] at c
      have e : t = false:=by
        rw [<- ht,Bool.eq_false_iff]
        intro h
        have:=srtB_iff.1 h (k - 2) (by omega)
        rw [show k - 2 + 1 = k - 1 by omega] at this
        omega
      subst e
      repeat' (conv=>whnf); first |(refine zs_go (i:=k - 1) (by omega) hp ?_) |(refine zs_go (i:=k - 2) (by omega) hq ?_) |(refine Or.inl ⟨by rfl,_,c,?_⟩) | refine Br.tt ?_ |(refine Br.dec (fun h=>?_) (fun h=>?_)) <;> try (exfalso; omega) | refine And.intro rfl ?_ |(refine And.intro (by omega) ?_) |(refine ⟨_,Or.inl ⟨⟨by omega,by omega⟩,rfl⟩,?_⟩) | fail
      all_goals exact rfl
    . rw [decide_eq_false h2] at c
      repeat' (conv=>whnf); first |(refine zs_go (i:=k - 1) (by omega) hp ?_) |(refine zs_go (i:=k - 2) (by omega) hq ?_) |(refine Or.inl ⟨by rfl,_,c,?_⟩) | refine Br.ff ?_ |(refine Br.dec (fun h=>?_) (fun h=>?_)) <;> try (exfalso; omega) | refine And.intro rfl ?_ |(refine And.intro (by omega) ?_) |(refine ⟨_,Or.inl ⟨⟨by omega,by omega⟩,rfl⟩,?_⟩) | fail
      refine ⟨k - 1,⟨by omega,fun i h3 h4=>?_⟩,(show k - 1 < k by omega),⟨rfl,?_,trivial⟩,trivial,rfl⟩
      . rcases Nat.lt_or_ge (i + 1) k with h5 | h5
        . rw [show i = k - 2 by omega,show k - 2 + 1 = k - 1 by omega]; omega
        . exact hk2 i h5 h4
      . exact congrArg (SV.int .i64) (by omega)
  . have e : t = true:=by
      rw [<- ht]
      exact srtB_iff.2 fun i hi=>hk2 i (by omega) hi
    subst e
    repeat' (conv=>whnf); first |(refine Br.dec (fun h=>?_) (fun h=>?_)) <;> try (exfalso; omega) | refine And.intro rfl ?_ | fail
    all_goals exact rfl
def ir_csr_row : IR :=
(.seq (.reg (⟨some 4,.mv (.c (.bool false)),none⟩::[])) (.seq (.seq (.reg (⟨some 7,.mv (.t 0),none⟩::⟨some 8,.ln (.t 7),none⟩::⟨some 9,.mv (.c (.int .i64 0)),none⟩::[])) (.block 0 (.loop (.seq (.reg (⟨some 10,.bin .lss (.t 9) (.t 8),none⟩::[])) (.seq (.cond (.t 10) .skip (.exit 0)) (.seq (.block 1 (.seq (.reg (⟨some 11,.mv (.t 9),none⟩::⟨some 12,.ia 1 (.t 7) (.t 9),none⟩::⟨some 13,.ld 1 false (.t 12),none⟩::⟨some 5,.mv (.t 11),none⟩::⟨some 6,.mv (.t 13),none⟩::[])) (.seq (.reg (⟨some 14,.mv (.t 6),none⟩::⟨some 15,.mv (.t 1),none⟩::⟨some 16,.bin .sub (.t 15) (.c (.int .i64 1)),none⟩::⟨some 17,.call (.c (.fn 43 [])) [(.t 14),(.t 16)],none⟩::⟨some 18,.un .not (.t 17),none⟩::⟨some 19,.mv (.t 18),none⟩::⟨some 20,.mv (.t 5),some (19,false)⟩::⟨some 21,.bin .gtr (.t 20) (.c (.int .i64 0)),some (19,false)⟩::⟨some 22,.mv (.t 21),some (19,false)⟩::⟨some 23,.mv (.t 0),some (22,true)⟩::⟨some 24,.mv (.t 5),some (22,true)⟩::⟨some 25,.bin .sub (.t 24) (.c (.int .i64 1)),some (22,true)⟩::⟨some 26,.ia 1 (.t 23) (.t 25),some (22,true)⟩::⟨some 27,.ld 1 false (.t 26),some (22,true)⟩::⟨some 28,.mv (.t 6),some (22,true)⟩::⟨some 29,.bin .geq (.t 27) (.t 28),some (22,true)⟩::⟨some 30,.pick (.t 22) (.t 29) (.c (.bool false)),some (19,false)⟩::⟨some 31,.pick (.t 19) (.c (.bool true)) (.t 30),none⟩::[])) (.cond (.t 31) (.seq (.reg (⟨some 4,.mv (.c (.bool false)),none⟩::[])) .ret) .skip)))) (.reg (⟨some 32,.bin .add (.t 9) (.c (.int .i64 1)),none⟩::⟨some 9,.mv (.t 32),none⟩::[])))))))) (.seq (.reg (⟨some 4,.mv (.c (.bool true)),none⟩::[])) .ret)))
theorem cd_csr_row : Code1 Tryz.prog 45 33 ir_csr_row [.t 4]:=⟨Tryz.call45,_,_,Tryz.func45,rfl,by kernel_rfl,by kernel_rfl,by kernel_rfl,by kernel_rfl⟩
theorem fs_crow (l : List Int) (cols : Int) (hc : 0 ≤ cols ∧ cols ≤ 4096) (hl : l.length ≤ 1000000) : FS Tryz.prog 45 [Z l, .int .i64 cols] (.bool (riseL cols l)) := by
  refine fs_of_cvc mixed cd_csr_row (by simp) ?_
  have hzl:=zs_len l
  obtain ⟨t,ht⟩ : ∃ t,riseL cols l = t:=⟨_,rfl⟩
  rw [ht]
  repeat' (conv=>whnf); first | fail
  refine ⟨Nat,fun k=>k <= l.length /\ allN k (fun j=>colB l cols j j) = true,fun k=>[(0,Z l),(1,.int .i64 cols),(7,Z l),(8,.int .i64 (l.length : Int)),(9,.int .i64 (k : Int))],fun k=>[],fun _=>none,fun k=>l.length - k,⟨0,⟨Nat.zero_le _,rfl⟩,⟨rfl,rfl,rfl,?_,rfl,trivial⟩,trivial,rfl⟩,fun k hk=>?_⟩
  . exact congrArg (SV.int .i64) (congrArg Int.ofNat hzl)
  obtain ⟨hk1,hk2⟩:=hk
  by_cases hkl : k < l.length
  . obtain ⟨p,hp⟩ : ∃ p,l.getD k 0 = p:=⟨_,rfl⟩
    obtain ⟨q,hq⟩ : ∃ q,l.getD (k - 1) 0 = q:=⟨_,rfl⟩
    have c:=fs_cwithin p (cols - 1)
    by_cases hb : colB l cols k k = true
    . have hb':=colB_iff.1 hb
      rw [hp,hq] at hb'
      repeat' (conv=>whnf); first |(refine zs_go (i:=k) (by omega) hp ?_) |(refine zs_go (i:=k - 1) (by omega) hq ?_) |(refine Or.inl ⟨by rfl,_,c,?_⟩) |((refine Br.dand (fun h=>?_) (fun h=>?_) <;> try (exfalso; omega))) | refine Br.tt ?_ | refine Br.ff ?_ |(refine Br.dec (fun h=>?_) (fun h=>?_)) <;> try (exfalso; omega) | refine Br.neg ?_ | refine And.intro rfl ?_ |(refine And.intro (by omega) ?_) |(refine ⟨_,Or.inl ⟨⟨by omega,by omega⟩,rfl⟩,?_⟩) | fail
      all_goals exact ⟨k + 1,⟨by omega,allN_yes hk2 hb⟩,(show l.length - (k + 1) < l.length - k by omega),⟨rfl,rfl,rfl,rfl,rfl,trivial⟩,trivial,rfl⟩
    . have e : t = false:=by
        rw [<- ht]
        exact allN_no hkl (by simpa using hb)
      subst e
      rw [colB_iff,hp,hq] at hb
      repeat' (conv=>whnf); first |(refine zs_go (i:=k) (by omega) hp ?_) |(refine zs_go (i:=k - 1) (by omega) hq ?_) |(refine Or.inl ⟨by rfl,_,c,?_⟩) |((refine Br.dand (fun h=>?_) (fun h=>?_) <;> try (exfalso; omega))) | refine Br.tt ?_ | refine Br.ff ?_ |(refine Br.dec (fun h=>?_) (fun h=>?_)) <;> try (exfalso; omega) | refine Br.neg ?_ | refine And.intro rfl ?_ |(refine And.intro (by omega) ?_) |(refine ⟨_,Or.inl ⟨⟨by omega,by omega⟩,rfl⟩,?_⟩) | fail
      all_goals exact rfl
  . obtain rfl : k = l.length:=by omega
    rw [riseL,hk2] at ht
    subst ht
    repeat' (conv=>whnf); first |(refine Br.dec (fun h=>?_) (fun h=>?_)) <;> try (exfalso; omega) | refine And.intro rfl ?_ | fail
    exact rfl
def ir_csr_Right : IR :=
(.seq (.reg (⟨some 1,.bx (.t 0),none⟩::⟨some 2,.mv (.c (.bool false)),none⟩::[])) (.seq (.reg (⟨some 5,.fa 3 (.t 1),none⟩::⟨some 6,.ld 1 false (.t 5),none⟩::⟨some 7,.ln (.t 6),none⟩::⟨some 3,.mv (.t 7),none⟩::[])) (.seq (.seq (.reg (⟨some 8,.fa 0 (.t 1),none⟩::⟨some 9,.ld 1 false (.t 8),none⟩::⟨some 10,.call (.c (.fn 43 [])) [(.t 9),(.c (.int .i64 4096))],none⟩::⟨some 11,.un .not (.t 10),none⟩::⟨some 12,.mv (.t 11),none⟩::⟨some 13,.fa 1 (.t 1),some (12,false)⟩::⟨some 14,.ld 1 false (.t 13),some (12,false)⟩::⟨some 15,.call (.c (.fn 43 [])) [(.t 14),(.c (.int .i64 4096))],some (12,false)⟩::⟨some 16,.un .not (.t 15),some (12,false)⟩::⟨some 17,.pick (.t 12) (.c (.bool true)) (.t 16),none⟩::⟨some 18,.mv (.t 17),none⟩::⟨some 19,.fa 2 (.t 1),some (18,false)⟩::⟨some 20,.ld 1 false (.t 19),some (18,false)⟩::⟨some 21,.ln (.t 20),some (18,false)⟩::⟨some 22,.fa 0 (.t 1),some (18,false)⟩::⟨some 23,.ld 1 false (.t 22),some (18,false)⟩::⟨some 24,.bin .add (.t 23) (.c (.int .i64 1)),some (18,false)⟩::⟨some 25,.bin .neq (.t 21) (.t 24),some (18,false)⟩::⟨some 26,.pick (.t 18) (.c (.bool true)) (.t 25),none⟩::⟨some 27,.mv (.t 26),none⟩::⟨some 28,.fa 4 (.t 1),some (27,false)⟩::⟨some 29,.ld 1 false (.t 28),some (27,false)⟩::⟨some 30,.ln (.t 29),some (27,false)⟩::⟨some 31,.mv (.t 3),some (27,false)⟩::⟨some 32,.bin .neq (.t 30) (.t 31),some (27,false)⟩::⟨some 33,.pick (.t 27) (.c (.bool true)) (.t 32),none⟩::⟨some 34,.mv (.t 33),none⟩::⟨some 35,.mv (.t 3),some (34,false)⟩::⟨some 36,.bin .gtr (.t 35) (.c (.int .i64 65536)),some (34,false)⟩::⟨some 37,.pick (.t 34) (.c (.bool true)) (.t 36),none⟩::[])) (.cond (.t 37) (.seq (.reg (⟨some 2,.mv (.c (.bool false)),none⟩::[])) .ret) .skip)) (.seq (.seq (.reg (⟨some 38,.fa 2 (.t 1),none⟩::⟨some 39,.ld 1 false (.t 38),none⟩::⟨some 40,.ia 1 (.t 39) (.c (.int .i64 0)),none⟩::⟨some 41,.ld 1 false (.t 40),none⟩::⟨some 42,.bin .neq (.t 41) (.c (.int .i64 0)),none⟩::⟨some 43,.mv (.t 42),none⟩::⟨some 44,.fa 2 (.t 1),some (43,false)⟩::⟨some 45,.ld 1 false (.t 44),some (43,false)⟩::⟨some 46,.fa 0 (.t 1),some (43,false)⟩::⟨some 47,.ld 1 false (.t 46),some (43,false)⟩::⟨some 48,.ia 1 (.t 45) (.t 47),some (43,false)⟩::⟨some 49,.ld 1 false (.t 48),some (43,false)⟩::⟨some 50,.mv (.t 3),some (43,false)⟩::⟨some 51,.bin .neq (.t 49) (.t 50),some (43,false)⟩::⟨some 52,.pick (.t 43) (.c (.bool true)) (.t 51),none⟩::⟨some 53,.mv (.t 52),none⟩::⟨some 54,.fa 2 (.t 1),some (53,false)⟩::⟨some 55,.ld 1 false (.t 54),some (53,false)⟩::⟨some 56,.call (.c (.fn 44 [])) [(.t 55)],some (53,false)⟩::⟨some 57,.un .not (.t 56),some (53,false)⟩::⟨some 58,.pick (.t 53) (.c (.bool true)) (.t 57),none⟩::[])) (.cond (.t 58) (.seq (.reg (⟨some 2,.mv (.c (.bool false)),none⟩::[])) .ret) .skip)) (.seq (.seq (.reg (⟨some 59,.fa 0 (.t 1),none⟩::⟨some 60,.ld 1 false (.t 59),none⟩::⟨some 61,.mv (.c (.int .i64 0)),none⟩::[])) (.block 0 (.loop (.seq (.reg (⟨some 62,.bin .lss (.t 61) (.t 60),none⟩::[])) (.seq (.cond (.t 62) .skip (.exit 0)) (.seq (.block 1 (.seq (.reg (⟨some 63,.mv (.t 61),none⟩::⟨some 4,.mv (.t 63),none⟩::[])) (.seq (.draw (⟨some 64,.fa 3 (.t 1),none⟩::⟨some 65,.ld 1 false (.t 64),none⟩::⟨some 66,.fa 2 (.t 1),none⟩::⟨some 67,.ld 1 false (.t 66),none⟩::⟨some 68,.mv (.t 4),none⟩::⟨some 69,.ia 1 (.t 67) (.t 68),none⟩::⟨some 70,.ld 1 false (.t 69),none⟩::⟨some 71,.fa 2 (.t 1),none⟩::⟨some 72,.ld 1 false (.t 71),none⟩::⟨some 73,.mv (.t 4),none⟩::⟨some 74,.bin .add (.t 73) (.c (.int .i64 1)),none⟩::⟨some 75,.ia 1 (.t 72) (.t 74),none⟩::⟨some 76,.ld 1 false (.t 75),none⟩::⟨some 77,.sl 1 (.t 65) (some (.t 70)) (some (.t 76)) none,none⟩::⟨some 78,.fa 1 (.t 1),none⟩::⟨some 79,.ld 1 false (.t 78),none⟩::[]) (⟨some 80,.call (.c (.fn 45 [])) [(.t 77),(.t 79)],none⟩::⟨some 81,.un .not (.t 80),none⟩::[])) (.cond (.t 81) (.seq (.reg (⟨some 2,.mv (.c (.bool false)),none⟩::[])) .ret) .skip)))) (.reg (⟨some 82,.bin .add (.t 61) (.c (.int .i64 1)),none⟩::⟨some 61,.mv (.t 82),none⟩::[])))))))) (.seq (.reg (⟨some 2,.mv (.c (.bool true)),none⟩::[])) .ret))))))
theorem cd_csr_Right : Code1 Tryz.prog 19 83 ir_csr_Right [.t 2]:=⟨Tryz.call19,_,_,Tryz.func19,rfl,by kernel_rfl,by kernel_rfl,by kernel_rfl,by kernel_rfl⟩
set_option maxHeartbeats 4000000 in
theorem fs_mRight (rows cols : Int) (st col val : List Int) : FS Tryz.prog 19 [MX rows cols st col val] (.bool (mR rows cols st col val)):=by
  refine fs_of_cvc mixed cd_csr_Right (by simp) ?_
  have c1:=fs_cwithin rows 4096
  have c2:=fs_cwithin cols 4096
  have hsl:=zs_len st
  have hcl:=zs_len col
  have hvl:=zs_len val
  obtain ⟨t,ht⟩ : ∃ t,mR rows cols st col val = t:=⟨_,rfl⟩
  rw [ht]
  by_cases hA : mA rows cols st col val = true
  . have hA':=hA
    unfold mA at hA'
    rw [decide_eq_true_eq] at hA'
    unfold mR at ht
    rw [hA,Bool.true_and] at ht
    obtain ⟨z0,hz0⟩ : ∃ z,st.getD 0 0 = z:=⟨_,rfl⟩
    obtain ⟨zn,hzn⟩ : ∃ z,st.getD rows.toNat 0 = z:=⟨_,rfl⟩
    have c3:=fs_IsSorted st (by omega)
    by_cases hB : mB rows st col = true
    . have hB':=hB
      unfold mB at hB'
      rw [decide_eq_true_eq,hz0,hzn] at hB'
      rw [hB,Bool.true_and] at ht
      cases hs : srtB st with
      | false =>
        rw [hs] at c3
        rw [srt_no hA'.2.2.2.2.1 hs] at ht
        subst ht
        repeat' (conv=>whnf); first |(refine Or.inl ⟨by rfl,_,c1,?_⟩) |(refine Or.inl ⟨by rfl,_,c2,?_⟩) |(refine Or.inl ⟨by rfl,_,c3,?_⟩) |(refine zs_go (i:=0) (by omega) hz0 ?_) |(refine zs_go (i:=rows.toNat) (by omega) hzn ?_) |((refine Br.dand (fun h=>?_) (fun h=>?_) <;> try (exfalso; omega))) | refine Br.tt ?_ | refine Br.ff ?_ |(refine Br.dec (fun h=>?_) (fun h=>?_)) <;> try (exfalso; omega) | refine Br.neg ?_ | refine And.intro rfl ?_ |(refine And.intro (by omega) ?_) |(refine ⟨_,Or.inl ⟨⟨by omega,by omega⟩,rfl⟩,?_⟩) | fail
        all_goals exact rfl
      | true =>
        rw [hs] at c3
        repeat' (conv=>whnf); first |(refine Or.inl ⟨by rfl,_,c1,?_⟩) |(refine Or.inl ⟨by rfl,_,c2,?_⟩) |(refine Or.inl ⟨by rfl,_,c3,?_⟩) |(refine zs_go (i:=0) (by omega) hz0 ?_) |(refine zs_go (i:=rows.toNat) (by omega) hzn ?_) |((refine Br.dand (fun h=>?_) (fun h=>?_) <;> try (exfalso; omega))) | refine Br.ff ?_ |(refine Br.dec (fun h=>?_) (fun h=>?_)) <;> try (exfalso; omega) | refine Br.neg ?_ | refine And.intro rfl ?_ |(refine And.intro (by omega) ?_) |(refine ⟨_,Or.inl ⟨⟨by omega,by omega⟩,rfl⟩,?_⟩) | fail
        refine ⟨Nat,fun k=>(k : Int) <= rows /\ allN k (rowB st col cols) = true,fun k=>[(1,.ptr 0 0 0 0),(60,.int .i64 rows),(61,.int .i64 (k : Int))],fun k=>[.vars [.int .i64 rows,.int .i64 cols,Z st,Z col,Z val]],fun _=>none,fun k=>rows.toNat - k,⟨0,⟨by omega,rfl⟩,⟨rfl,rfl,rfl,trivial⟩,⟨⟨rfl,rfl,rfl,rfl,rfl,trivial⟩,trivial⟩,rfl⟩,fun k hk=>?_⟩
        obtain ⟨hk1,hk2⟩:=hk
        by_cases hkr : (k : Int) < rows
        . obtain ⟨a,ha⟩ : ∃ a,st.getD k 0 = a:=⟨_,rfl⟩
          obtain ⟨b,hb⟩ : ∃ b,st.getD (k + 1) 0 = b:=⟨_,rfl⟩
          have s1:=srt_le hs (Nat.zero_le k) (by omega)
          have s2:=srt_le hs (Nat.le_succ k) (by omega)
          have s3:=srt_le hs (show k + 1 <= rows.toNat by omega) (by omega)
          simp only [Nat.succ_eq_add_one] at s2
          rw [ha,hz0] at s1
          rw [ha,hb] at s2
          rw [hb,hzn] at s3
          have e1 : ((zs col).take b.toNat).drop a.toNat = zs ((col.take b.toNat).drop a.toNat):=by simp [zs,List.map_take,List.map_drop]
          have c4:=fs_crow ((col.take b.toNat).drop a.toNat) cols ⟨by omega,by omega⟩ (by simp; omega)
          unfold Z at c4
          rw [<- e1] at c4
          have e2 : rowB st col cols k = riseL cols ((col.take b.toNat).drop a.toNat):=by
            rw [riseL_slice (by omega) (by omega)]
            unfold rowB
            rw [ha,hb,decide_eq_true (show 0 <= a by omega),decide_eq_true s2,decide_eq_true (show b <= (col.length : Int) by omega)]
            rw [show (b - a).toNat = b.toNat - a.toNat by omega]; rfl
          rw [<- e2] at c4
          cases hr : rowB st col cols k with
          | true =>
            rw [hr] at c4
            repeat' (conv=>whnf); first |(refine zs_go (i:=k) (by omega) ha ?_) |(refine zs_go (i:=k + 1) (by omega) hb ?_) |(refine Or.inl ⟨by rfl,_,c4,?_⟩) | refine Br.ff ?_ |(refine Br.dec (fun h=>?_) (fun h=>?_)) <;> try (exfalso; omega) | refine And.intro rfl ?_ |(refine And.intro (by omega) ?_) |(refine ⟨_,Or.inl ⟨⟨by omega,by omega⟩,rfl⟩,?_⟩) | fail
            exact ⟨k + 1,⟨by omega,allN_yes hk2 hr⟩,(show rows.toNat - (k + 1) < rows.toNat - k by omega),⟨rfl,rfl,rfl,trivial⟩,⟨⟨rfl,rfl,rfl,rfl,rfl,trivial⟩,trivial⟩,rfl⟩
          | false =>
            rw [hr] at c4
            rw [allN_no (show k < rows.toNat by omega) hr] at ht
            subst ht
            repeat' (conv=>whnf); first |(refine zs_go (i:=k) (by omega) ha ?_) |(refine zs_go (i:=k + 1) (by omega) hb ?_) |(refine Or.inl ⟨by rfl,_,c4,?_⟩) | refine Br.tt ?_ |(refine Br.dec (fun h=>?_) (fun h=>?_)) <;> try (exfalso; omega) | refine And.intro rfl ?_ |(refine And.intro (by omega) ?_) |(refine ⟨_,Or.inl ⟨⟨by omega,by omega⟩,rfl⟩,?_⟩) | fail
            exact rfl
        . obtain rfl : k = rows.toNat:=by omega
          rw [hk2] at ht
          subst ht
          repeat' (conv=>whnf); first |(refine Br.dec (fun h=>?_) (fun h=>?_)) <;> try (exfalso; omega) | refine And.intro rfl ?_ | fail
          exact rfl
    . have hB2 : mB rows st col = false:=by simpa using hB
      rw [hB2,Bool.false_and] at ht
      subst ht
      unfold mB at hB
      rw [decide_eq_true_eq,hz0,hzn] at hB
      repeat' (conv=>whnf); first |(refine Or.inl ⟨by rfl,_,c1,?_⟩) |(refine Or.inl ⟨by rfl,_,c2,?_⟩) |(refine zs_go (i:=0) (by omega) hz0 ?_) |(refine zs_go (i:=rows.toNat) (by omega) hzn ?_) |((refine Br.dand (fun h=>?_) (fun h=>?_) <;> try (exfalso; omega))) | refine Br.tt ?_ | refine Br.ff ?_ |(refine Br.dec (fun h=>?_) (fun h=>?_)) <;> try (exfalso; omega) | refine Br.neg ?_ | refine And.intro rfl ?_ |(refine And.intro (by omega) ?_) |(refine ⟨_,Or.inl ⟨⟨by omega,by omega⟩,rfl⟩,?_⟩) | fail
      all_goals exact rfl
  . have hA2 : mA rows cols st col val = false:=by simpa using hA
    unfold mR at ht
    rw [hA2,Bool.false_and] at ht
    subst ht
    unfold mA at hA
    rw [decide_eq_true_eq] at hA
    repeat' (conv=>whnf); first |(refine Or.inl ⟨by rfl,_,c1,?_⟩) |(refine Or.inl ⟨by rfl,_,c2,?_⟩) |((refine Br.dand (fun h=>?_) (fun h=>?_) <;> try (exfalso; omega))) | refine Br.tt ?_ | refine Br.ff ?_ |(refine Br.dec (fun h=>?_) (fun h=>?_)) <;> try (exfalso; omega) | refine Br.neg ?_ | refine And.intro rfl ?_ |(refine ⟨_,Or.inl ⟨⟨by omega,by omega⟩,rfl⟩,?_⟩) | fail
    all_goals exact rfl
end
section
open Go.RowKit
attribute [local irreducible] FS FO IT HS
theorem frz_zr {k : Nat} : List.take k (List.drop 0 (List.replicate k [SV.int .i64 0])) = zs (List.replicate k 0):=by
  rw [List.drop_zero,List.take_of_length_le (by simp),zs_rep]
def ir_fretworkref07_Empty : IR :=
(.seq (.reg (⟨some 4,.al [.int .i64 0,.int .i64 0,.nils,.nils,.nils],none⟩::[])) (.seq (.reg (⟨some 5,.mv (.t 0),none⟩::⟨some 6,.mv (.t 1),none⟩::⟨some 7,.mv (.t 0),none⟩::⟨some 8,.bin .add (.t 7) (.c (.int .i64 1)),none⟩::⟨some 9,.mk 1 8 [.int .i64 0] (.t 8) (.t 8),none⟩::⟨some 10,.bld [.int .i64 0,.int .i64 0,.nils,.nils,.nils] [(0,1,(.t 5)),(1,1,(.t 6)),(2,1,(.t 9))],none⟩::⟨none,.st 5 (.t 4) (.t 10),none⟩::[])) .ret))
theorem cd_fretworkref07_Empty : Code1 Tryz.prog 41 11 ir_fretworkref07_Empty [.c 5 true 4]:=⟨Tryz.call41,_,_,Tryz.func41,rfl,by kernel_rfl,by kernel_rfl,by kernel_rfl,by kernel_rfl⟩
theorem fs_r7Empty (rows cols : Int) (h0 : 0 <= rows) (h1 : rows <= 1000000) : FS Tryz.prog 41 [.int .i64 rows,.int .i64 cols] (MX rows cols (List.replicate (rows + 1).toNat 0) [] []):=by
  refine fs_of_cvc mixed cd_fretworkref07_Empty (by simp) ?_
  repeat' (conv=>whnf); first |(refine And.intro (show _ <= _ from Nat.le_of_ble_eq_true rfl) ?_) | refine And.intro rfl ?_ |(refine And.intro (by omega) ?_) |(refine ⟨_,Or.inl ⟨⟨by omega,by omega⟩,rfl⟩,?_⟩) |(refine And.intro (by simp only [lens_all]; first | done | omega) ?_) | fail
  conv=>whnf
  rw [frz_zr]
  exact ⟨rfl,rfl,rfl,trivial⟩
def ir_csr_empty : IR :=
(.seq (.reg (⟨some 4,.al [.int .i64 0,.int .i64 0,.nils,.nils,.nils],none⟩::[])) (.seq (.reg (⟨some 5,.mv (.t 0),none⟩::⟨some 6,.mv (.t 1),none⟩::⟨some 7,.mv (.t 0),none⟩::⟨some 8,.bin .add (.t 7) (.c (.int .i64 1)),none⟩::⟨some 9,.mk 1 8 [.int .i64 0] (.t 8) (.t 8),none⟩::⟨some 10,.bld [.int .i64 0,.int .i64 0,.nils,.nils,.nils] [(0,1,(.t 5)),(1,1,(.t 6)),(2,1,(.t 9))],none⟩::⟨none,.st 5 (.t 4) (.t 10),none⟩::[])) .ret))
theorem cd_csr_empty : Code1 Tryz.prog 77 11 ir_csr_empty [.c 5 true 4]:=⟨Tryz.call77,_,_,Tryz.func77,rfl,by kernel_rfl,by kernel_rfl,by kernel_rfl,by kernel_rfl⟩
theorem fs_cempty (rows cols : Int) (h0 : 0 <= rows) (h1 : rows <= 1000000) : FS Tryz.prog 77 [.int .i64 rows,.int .i64 cols] (MX rows cols (List.replicate (rows + 1).toNat 0) [] []):=by
  refine fs_of_cvc mixed cd_csr_empty (by simp) ?_
  repeat' (conv=>whnf); first |(refine And.intro (show _ <= _ from Nat.le_of_ble_eq_true rfl) ?_) | refine And.intro rfl ?_ |(refine And.intro (by omega) ?_) |(refine ⟨_,Or.inl ⟨⟨by omega,by omega⟩,rfl⟩,?_⟩) |(refine And.intro (by simp only [lens_all]; first | done | omega) ?_) | fail
  conv=>whnf
  rw [frz_zr]
  exact ⟨rfl,rfl,rfl,trivial⟩
def ir_csr_sure : IR :=
(.seq (.reg (⟨some 1,.bx (.t 0),none⟩::⟨some 2,.al [.int .i64 0,.int .i64 0,.nils,.nils,.nils],none⟩::[])) (.seq (.seq (.reg (⟨some 3,.ld 5 true (.t 1),none⟩::⟨some 4,.call (.c (.fn 19 [])) [(.t 3)],none⟩::[])) (.cond (.t 4) (.seq (.reg (⟨some 5,.ld 5 true (.t 1),none⟩::⟨none,.st 5 (.t 2) (.t 5),none⟩::[])) .ret) .skip)) (.seq (.reg (⟨some 6,.call (.c (.fn 77 [])) [(.c (.int .i64 0)),(.c (.int .i64 0))],none⟩::⟨none,.st 5 (.t 2) (.t 6),none⟩::[])) .ret)))
theorem cd_csr_sure : Code1 Tryz.prog 46 7 ir_csr_sure [.c 5 true 2]:=⟨Tryz.call46,_,_,Tryz.func46,rfl,by kernel_rfl,by kernel_rfl,by kernel_rfl,by kernel_rfl⟩
theorem fs_csure (rows cols : Int) (st col val : List Int) : FS Tryz.prog 46 [MX rows cols st col val] (MV (mS rows cols st col val)):=by
  refine fs_of_cvc mixed cd_csr_sure (by simp) ?_
  have c1:=fs_mRight rows cols st col val
  have c2 : FS Tryz.prog 77 [.int .i64 0,.int .i64 0] (MX 0 0 [0] [] []):=fs_cempty 0 0 (by omega) (by omega)
  unfold mS MV
  cases h : mR rows cols st col val with
  | true =>
    rw [h] at c1
    repeat' (conv=>whnf); first |(refine Or.inl ⟨by rfl,_,c1,?_⟩) |(refine And.intro (show _ <= _ from Nat.le_of_ble_eq_true rfl) ?_) | refine Br.tt ?_ | refine And.intro rfl ?_ | fail
    exact rfl
  | false =>
    rw [h] at c1
    repeat' (conv=>whnf); first |(refine Or.inl ⟨by rfl,_,c1,?_⟩) |(refine Or.inl ⟨by rfl,_,c2,?_⟩) |(refine And.intro (show _ <= _ from Nat.le_of_ble_eq_true rfl) ?_) | refine Br.ff ?_ | refine And.intro rfl ?_ | fail
    exact rfl
def ir_csr_built : IR :=
(.seq (.reg (⟨some 6,.al [.int .i64 0,.int .i64 0,.nils,.nils,.nils],none⟩::[])) (.seq (.reg (⟨some 11,.mv (.t 0),none⟩::⟨some 12,.mv (.t 1),none⟩::⟨some 13,.call (.c (.fn 77 [])) [(.t 11),(.t 12)],none⟩::⟨some 7,.al [.int .i64 0,.int .i64 0,.nils,.nils,.nils],none⟩::⟨none,.st 5 (.t 7) (.t 13),none⟩::[])) (.seq (.seq (.reg (⟨some 14,.mv (.t 2),none⟩::⟨some 15,.ln (.t 14),none⟩::⟨some 16,.mv (.c (.int .i64 0)),none⟩::[])) (.block 0 (.loop (.seq (.reg (⟨some 17,.bin .lss (.t 16) (.t 15),none⟩::[])) (.seq (.cond (.t 17) .skip (.exit 0)) (.seq (.block 1 (.seq (.reg (⟨some 18,.ia 3 (.t 14) (.t 16),none⟩::⟨some 19,.ld 3 true (.t 18),none⟩::⟨some 9,.al [.int .i64 0,.int .i64 0,.int .i64 0],none⟩::⟨none,.st 3 (.t 9) (.t 19),none⟩::[])) (.seq (.reg (⟨some 20,.fa 2 (.t 7),none⟩::⟨some 21,.ld 1 false (.t 20),none⟩::⟨some 22,.fa 0 (.t 9),none⟩::⟨some 23,.ld 1 false (.t 22),none⟩::⟨some 24,.bin .add (.t 23) (.c (.int .i64 1)),none⟩::⟨some 25,.ia 1 (.t 21) (.t 24),none⟩::⟨some 26,.ld 1 false (.t 25),none⟩::⟨some 27,.bin .add (.t 26) (.c (.int .i64 1)),none⟩::⟨some 28,.ia 1 (.t 21) (.t 24),none⟩::⟨none,.st 1 (.t 28) (.t 27),none⟩::[])) (.seq (.reg (⟨some 29,.fa 3 (.t 7),none⟩::⟨some 30,.ld 1 false (.t 29),none⟩::⟨some 31,.fa 1 (.t 9),none⟩::⟨some 32,.ld 1 false (.t 31),none⟩::⟨some 33,.bsl 1 1 [.int .i64 0] [(0,(.t 32))],none⟩::⟨some 34,.ap 1 8 (.t 30) (.t 33),none⟩::⟨some 35,.fa 3 (.t 7),none⟩::⟨none,.st 1 (.t 35) (.t 34),none⟩::[])) (.reg (⟨some 36,.fa 4 (.t 7),none⟩::⟨some 37,.ld 1 false (.t 36),none⟩::⟨some 38,.fa 2 (.t 9),none⟩::⟨some 39,.ld 1 false (.t 38),none⟩::⟨some 40,.bsl 1 1 [.int .i64 0] [(0,(.t 39))],none⟩::⟨some 41,.ap 1 8 (.t 37) (.t 40),none⟩::⟨some 42,.fa 4 (.t 7),none⟩::⟨none,.st 1 (.t 42) (.t 41),none⟩::[])))))) (.reg (⟨some 43,.bin .add (.t 16) (.c (.int .i64 1)),none⟩::⟨some 16,.mv (.t 43),none⟩::[])))))))) (.seq (.seq (.reg (⟨some 44,.mv (.t 0),none⟩::⟨some 45,.mv (.c (.int .i64 0)),none⟩::[])) (.block 2 (.loop (.seq (.reg (⟨some 46,.bin .lss (.t 45) (.t 44),none⟩::[])) (.seq (.cond (.t 46) .skip (.exit 2)) (.seq (.block 3 (.seq (.reg (⟨some 47,.mv (.t 45),none⟩::⟨some 10,.mv (.t 47),none⟩::[])) (.draw (⟨some 48,.fa 2 (.t 7),none⟩::⟨some 49,.ld 1 false (.t 48),none⟩::⟨some 50,.mv (.t 10),none⟩::⟨some 51,.bin .add (.t 50) (.c (.int .i64 1)),none⟩::⟨some 52,.ia 1 (.t 49) (.t 51),none⟩::⟨some 53,.ld 1 false (.t 52),none⟩::⟨some 54,.fa 2 (.t 7),none⟩::⟨some 55,.ld 1 false (.t 54),none⟩::⟨some 56,.mv (.t 10),none⟩::⟨some 57,.ia 1 (.t 55) (.t 56),none⟩::⟨some 58,.ld 1 false (.t 57),none⟩::[]) (⟨some 59,.bin .add (.t 53) (.t 58),none⟩::⟨some 60,.ia 1 (.t 49) (.t 51),none⟩::⟨none,.st 1 (.t 60) (.t 59),none⟩::[])))) (.reg (⟨some 61,.bin .add (.t 45) (.c (.int .i64 1)),none⟩::⟨some 45,.mv (.t 61),none⟩::[])))))))) (.seq (.reg (⟨some 62,.ld 5 true (.t 7),none⟩::⟨none,.st 5 (.t 6) (.t 62),none⟩::[])) .ret)))))
theorem cd_csr_built : Code1 Tryz.prog 49 63 ir_csr_built [.c 5 true 6]:=⟨Tryz.call49,_,_,Tryz.func49,rfl,by kernel_rfl,by kernel_rfl,by kernel_rfl,by kernel_rfl⟩
theorem fs_cbuilt0 : FS Tryz.prog 49 [.int .i64 0,.int .i64 0,.nils] (MX 0 0 [0] [] []):=by
  refine fs_of_cvc mixed cd_csr_built (by simp) ?_
  have c2 : FS Tryz.prog 77 [.int .i64 0,.int .i64 0] (MX 0 0 [0] [] []):=fs_cempty 0 0 (by omega) (by omega)
  repeat' (conv=>whnf); first |(refine Or.inl ⟨by rfl,_,c2,?_⟩) |(refine And.intro (show _ <= _ from Nat.le_of_ble_eq_true rfl) ?_) | refine And.intro rfl ?_ | fail
  refine ⟨Unit,fun _=>True,fun _=>[(0,.int .i64 0),(6,.ptr 0 0 0 0),(7,.ptr 1 0 0 0),(14,.nils),(15,.int .i64 0),(16,.int .i64 0)],fun _=>[.vars [.int .i64 0,.int .i64 0,.nils,.nils,.nils],.vars [.int .i64 0,.int .i64 0,Z [0],Z [],Z []]],fun _=>none,fun _=>0,⟨(),trivial,⟨rfl,rfl,rfl,rfl,rfl,rfl,trivial⟩,⟨⟨rfl,rfl,rfl,rfl,rfl,trivial⟩,⟨rfl,rfl,rfl,rfl,rfl,trivial⟩,trivial⟩,rfl⟩,fun _ _=>?_⟩
  repeat' (conv=>whnf); first | refine Br.ff ?_ | refine And.intro rfl ?_ | fail
  refine ⟨Unit,fun _=>True,fun _=>[(6,.ptr 0 0 0 0),(7,.ptr 1 0 0 0),(44,.int .i64 0),(45,.int .i64 0)],fun _=>[.vars [.int .i64 0,.int .i64 0,.nils,.nils,.nils],.vars [.int .i64 0,.int .i64 0,Z [0],Z [],Z []]],fun _=>none,fun _=>0,⟨(),trivial,⟨rfl,rfl,rfl,rfl,trivial⟩,⟨⟨rfl,rfl,rfl,rfl,rfl,trivial⟩,⟨rfl,rfl,rfl,rfl,rfl,trivial⟩,trivial⟩,rfl⟩,fun _ _=>?_⟩
  repeat' (conv=>whnf); first |(refine And.intro (show _ <= _ from Nat.le_of_ble_eq_true rfl) ?_) | refine Br.ff ?_ | refine And.intro rfl ?_ | fail
  exact rfl
def ir_csr_bounds : IR :=
(.seq (.reg (⟨some 2,.bx (.t 0),none⟩::⟨some 4,.mv (.c (.int .i64 0)),none⟩::⟨some 5,.mv (.c (.int .i64 0)),none⟩::[])) (.seq (.reg (⟨some 8,.iaA 2 1 (.t 2) (.c (.int .i64 0)),none⟩::⟨some 9,.ld 1 false (.t 8),none⟩::⟨some 10,.mm true [(.t 9),(.c (.int .i64 0))],none⟩::⟨some 6,.mv (.t 10),none⟩::[])) (.seq (.reg (⟨some 11,.iaA 2 1 (.t 2) (.c (.int .i64 1)),none⟩::⟨some 12,.ld 1 false (.t 11),none⟩::⟨some 13,.mv (.t 1),none⟩::⟨some 14,.mm false [(.t 12),(.t 13)],none⟩::⟨some 7,.mv (.t 14),none⟩::[])) (.seq (.seq (.reg (⟨some 15,.mv (.t 7),none⟩::⟨some 16,.mv (.t 6),none⟩::⟨some 17,.bin .leq (.t 15) (.t 16),none⟩::[])) (.cond (.t 17) (.seq (.reg (⟨some 18,.mv (.t 6),none⟩::⟨some 4,.mv (.t 18),none⟩::⟨some 5,.mv (.c (.int .i64 0)),none⟩::[])) .ret) .skip)) (.seq (.reg (⟨some 19,.mv (.t 6),none⟩::⟨some 20,.mv (.t 7),none⟩::⟨some 21,.mv (.t 6),none⟩::⟨some 22,.bin .sub (.t 20) (.t 21),none⟩::⟨some 4,.mv (.t 19),none⟩::⟨some 5,.mv (.t 22),none⟩::[])) .ret)))))
theorem cd_csr_bounds : Code1 Tryz.prog 47 23 ir_csr_bounds [.t 4,.t 5]:=⟨Tryz.call47,_,_,Tryz.func47,rfl,by kernel_rfl,by kernel_rfl,by kernel_rfl,by kernel_rfl⟩
theorem fs_cbounds0 : FS Tryz.prog 47 [.agg [.int .i64 0,.int .i64 0],.int .i64 0] (.tup [.int .i64 0,.int .i64 0]):=by
  refine fs_of_cvc mixed cd_csr_bounds (by simp) ?_
  repeat' (conv=>whnf); first | refine Br.tt ?_ | refine And.intro rfl ?_ |(refine And.intro (by omega) ?_) | fail
  exact rfl
def ir_csr_Cut : IR :=
(.seq (.reg (⟨some 3,.bx (.t 0),none⟩::⟨some 4,.bx (.t 1),none⟩::⟨some 5,.bx (.t 2),none⟩::⟨some 6,.al [.int .i64 0,.int .i64 0,.nils,.nils,.nils],none⟩::[])) (.seq (.reg (⟨some 15,.ld 5 true (.t 3),none⟩::⟨some 16,.call (.c (.fn 46 [])) [(.t 15)],none⟩::⟨none,.st 5 (.t 3) (.t 16),none⟩::[])) (.seq (.reg (⟨some 18,.ld 2 true (.t 4),none⟩::⟨some 19,.fa 0 (.t 3),none⟩::⟨some 20,.ld 1 false (.t 19),none⟩::⟨some 21,.call (.c (.fn 47 [])) [(.t 18),(.t 20)],none⟩::⟨some 17,.mv (.t 21),none⟩::⟨some 22,.ex 0 (.t 17),none⟩::⟨some 23,.ex 1 (.t 17),none⟩::⟨some 7,.mv (.t 22),none⟩::⟨some 8,.mv (.t 23),none⟩::[])) (.seq (.reg (⟨some 25,.ld 2 true (.t 5),none⟩::⟨some 26,.fa 1 (.t 3),none⟩::⟨some 27,.ld 1 false (.t 26),none⟩::⟨some 28,.call (.c (.fn 47 [])) [(.t 25),(.t 27)],none⟩::⟨some 24,.mv (.t 28),none⟩::⟨some 29,.ex 0 (.t 24),none⟩::⟨some 30,.ex 1 (.t 24),none⟩::⟨some 9,.mv (.t 29),none⟩::⟨some 10,.mv (.t 30),none⟩::[])) (.seq (.reg (⟨some 11,.mv (.c (.nils)),none⟩::[])) (.seq (.seq (.reg (⟨some 31,.mv (.t 8),none⟩::⟨some 32,.mv (.c (.int .i64 0)),none⟩::[])) (.block 0 (.loop (.seq (.reg (⟨some 33,.bin .lss (.t 32) (.t 31),none⟩::[])) (.seq (.cond (.t 33) .skip (.exit 0)) (.seq (.block 1 (.seq (.reg (⟨some 34,.mv (.t 32),none⟩::⟨some 12,.mv (.t 34),none⟩::[])) (.seq (.reg (⟨some 35,.ld 5 true (.t 3),none⟩::⟨some 36,.mv (.t 7),none⟩::⟨some 37,.mv (.t 12),none⟩::⟨some 38,.bin .add (.t 36) (.t 37),none⟩::⟨some 39,.call (.c (.fn 48 [])) [(.t 35),(.t 38)],none⟩::⟨some 40,.ln (.t 39),none⟩::⟨some 41,.mv (.c (.int .i64 0)),none⟩::[])) (.block 2 (.loop (.seq (.reg (⟨some 42,.bin .lss (.t 41) (.t 40),none⟩::[])) (.seq (.cond (.t 42) .skip (.exit 2)) (.seq (.block 3 (.seq (.reg (⟨some 43,.ia 2 (.t 39) (.t 41),none⟩::⟨some 44,.ld 2 true (.t 43),none⟩::⟨some 14,.al [.int .i64 0,.int .i64 0],none⟩::⟨none,.st 2 (.t 14) (.t 44),none⟩::[])) (.seq (.reg (⟨some 45,.fa 0 (.t 14),none⟩::⟨some 46,.ld 1 false (.t 45),none⟩::⟨some 47,.mv (.t 9),none⟩::⟨some 48,.bin .geq (.t 46) (.t 47),none⟩::⟨some 49,.mv (.t 48),none⟩::⟨some 50,.fa 0 (.t 14),some (49,true)⟩::⟨some 51,.ld 1 false (.t 50),some (49,true)⟩::⟨some 52,.mv (.t 9),some (49,true)⟩::⟨some 53,.bin .sub (.t 51) (.t 52),some (49,true)⟩::⟨some 54,.mv (.t 10),some (49,true)⟩::⟨some 55,.bin .lss (.t 53) (.t 54),some (49,true)⟩::⟨some 56,.pick (.t 49) (.t 55) (.c (.bool false)),none⟩::[])) (.cond (.t 56) (.reg (⟨some 57,.mv (.t 11),none⟩::⟨some 58,.mv (.t 12),none⟩::⟨some 59,.fa 0 (.t 14),none⟩::⟨some 60,.ld 1 false (.t 59),none⟩::⟨some 61,.mv (.t 9),none⟩::⟨some 62,.bin .sub (.t 60) (.t 61),none⟩::⟨some 63,.fa 1 (.t 14),none⟩::⟨some 64,.ld 1 false (.t 63),none⟩::⟨some 65,.bld [.int .i64 0,.int .i64 0,.int .i64 0] [(0,1,(.t 58)),(1,1,(.t 62)),(2,1,(.t 64))],none⟩::⟨some 66,.bsl 1 3 [.int .i64 0,.int .i64 0,.int .i64 0] [(0,(.t 65))],none⟩::⟨some 67,.ap 3 24 (.t 57) (.t 66),none⟩::⟨some 11,.mv (.t 67),none⟩::[])) .skip)))) (.reg (⟨some 68,.bin .add (.t 41) (.c (.int .i64 1)),none⟩::⟨some 41,.mv (.t 68),none⟩::[])))))))))) (.reg (⟨some 69,.bin .add (.t 32) (.c (.int .i64 1)),none⟩::⟨some 32,.mv (.t 69),none⟩::[])))))))) (.seq (.reg (⟨some 70,.mv (.t 8),none⟩::⟨some 71,.mv (.t 10),none⟩::⟨some 72,.mv (.t 11),none⟩::⟨some 73,.call (.c (.fn 49 [])) [(.t 70),(.t 71),(.t 72)],none⟩::⟨none,.st 5 (.t 6) (.t 73),none⟩::[])) .ret)))))))
theorem cd_csr_Cut : Code1 Tryz.prog 20 74 ir_csr_Cut [.c 5 true 6]:=⟨Tryz.call20,_,_,Tryz.func20,rfl,by kernel_rfl,by kernel_rfl,by kernel_rfl,by kernel_rfl⟩
set_option maxHeartbeats 2000000 in
theorem fs_cCut0 (rows cols : Int) (st col val : List Int) (h : mR rows cols st col val = false) : FS Tryz.prog 20 [MX rows cols st col val,.agg [.int .i64 0,.int .i64 0],.agg [.int .i64 0,.int .i64 0]] (MX 0 0 [0] [] []):=by
  refine fs_of_cvc mixed cd_csr_Cut (by simp) ?_
  have c1:=fs_csure rows cols st col val
  have e : mS rows cols st col val = (0,0,[0],[],[]):=by unfold mS; rw [h]; rfl
  rw [e] at c1
  have c1' : FS Tryz.prog 46 [MX rows cols st col val] (MX 0 0 [0] [] []):=c1
  repeat' (conv=>whnf); first |(refine Or.inl ⟨by rfl,_,c1',?_⟩) |(refine Or.inl ⟨by rfl,_,fs_cbounds0,?_⟩) |(refine And.intro (show _ <= _ from Nat.le_of_ble_eq_true rfl) ?_) | refine And.intro rfl ?_ | fail
  refine ⟨Unit,fun _=>True,fun _=>[(6,.ptr 3 0 0 0),(8,.int .i64 0),(10,.int .i64 0),(11,.nils),(31,.int .i64 0),(32,.int .i64 0)],fun _=>[.dead,.dead,.dead,.vars [.int .i64 0,.int .i64 0,.nils,.nils,.nils]],fun _=>none,fun _=>0,⟨(),trivial,⟨rfl,rfl,rfl,rfl,rfl,rfl,trivial⟩,⟨trivial,trivial,trivial,⟨rfl,rfl,rfl,rfl,rfl,trivial⟩,trivial⟩,rfl⟩,fun _ _=>?_⟩
  repeat' (conv=>whnf); first |(refine Or.inl ⟨by rfl,_,fs_cbuilt0,?_⟩) |(refine And.intro (show _ <= _ from Nat.le_of_ble_eq_true rfl) ?_) | refine Br.ff ?_ | refine And.intro rfl ?_ | fail
  exact rfl
def ir_pull_sure : IR :=
(.seq (.reg (⟨some 2,.bx (.t 0),none⟩::⟨some 3,.bx (.t 1),none⟩::⟨some 4,.al [.int .i64 0,.int .i64 0,.nils,.nils,.nils],none⟩::⟨some 5,.al [.int .i64 0,.nils,.nils],none⟩::[])) (.seq (.seq (.reg (⟨some 6,.ld 5 true (.t 2),none⟩::⟨some 7,.call (.c (.fn 19 [])) [(.t 6)],none⟩::⟨some 8,.un .not (.t 7),none⟩::[])) (.cond (.t 8) (.reg (⟨some 9,.ld 5 true (.t 2),none⟩::⟨some 10,.bld [.int .i64 0,.int .i64 0] [],none⟩::⟨some 11,.bld [.int .i64 0,.int .i64 0] [],none⟩::⟨some 12,.call (.c (.fn 20 [])) [(.t 9),(.t 10),(.t 11)],none⟩::⟨none,.st 5 (.t 2) (.t 12),none⟩::[])) .skip)) (.seq (.seq (.reg (⟨some 13,.ld 3 true (.t 3),none⟩::⟨some 14,.call (.c (.fn 123 [])) [(.t 13)],none⟩::⟨some 15,.un .not (.t 14),none⟩::[])) (.cond (.t 15) (.reg (⟨some 16,.call (.c (.fn 70 [])) [(.c (.int .i64 0))],none⟩::⟨none,.st 3 (.t 3) (.t 16),none⟩::[])) .skip)) (.seq (.drawL (⟨some 17,.ld 5 true (.t 2),none⟩::⟨some 18,.ld 3 true (.t 3),none⟩::[]) (⟨some 18,.ld 3 true (.t 3),none⟩::[]) (⟨none,.st 5 (.t 4) (.t 17),none⟩::[]) (⟨none,.st 3 (.t 5) (.t 18),none⟩::[])) .ret))))
theorem cd_pull_sure : Code1 Tryz.prog 94 19 ir_pull_sure [.c 5 true 4,.c 3 true 5]:=⟨Tryz.call94,_,_,Tryz.func94,rfl,by kernel_rfl,by kernel_rfl,by kernel_rfl,by kernel_rfl⟩
set_option maxHeartbeats 2000000 in
theorem fs_psure (rows cols : Int) (st col val : List Int) (n : Int) (f : List Nat) (v : List Int) (hn : I64 n) (hw : Wd f) (hf : f.length <= 1000000) (hv : v.length <= 1000000) :
    FS Tryz.prog 94 [MX rows cols st col val,DV n f v] (.tup [MV (mS rows cols st col val),DV (dS n f v).1 (dS n f v).2.1 (dS n f v).2.2]):=by
  refine fs_of_cvc mixed cd_pull_sure (by simp) ?_
  have c1:=fs_mRight rows cols st col val
  have c2:=fs_dRight n f v hn hw hf hv
  have c3 : FS Tryz.prog 70 [.int .i64 0] (DV 0 [] []):=fs_dNew 0
  unfold mS MV dS
  cases h : mR rows cols st col val with
  | true =>
    rw [h] at c1
    cases h2 : dR n f v with
    | true =>
      rw [h2] at c2
      repeat' (conv=>whnf); first |(refine Or.inl ⟨by rfl,_,c1,?_⟩) |(refine Or.inl ⟨by rfl,_,c2,?_⟩) |((refine ex_but 2 ?_; refine And.intro ?_ ?_; focus ((repeat' (first | exact trivial | exact rfl | (refine And.intro ?_ ?_) | omega | exact Nat.le_of_ble_eq_true rfl | ((conv=>whnf); first | exact trivial | exact rfl | (refine And.intro ?_ ?_)))); done))) |(exact rfl) |((refine And.intro ?_ ?_; focus ((repeat' (first | exact trivial | exact rfl | (refine And.intro ?_ ?_) | omega | exact Nat.le_of_ble_eq_true rfl | ((conv=>whnf); first | exact trivial | exact rfl | (refine And.intro ?_ ?_)))); done))) | refine Br.ff ?_ | fail
      all_goals exact rfl
    | false =>
      rw [h2] at c2
      repeat' (conv=>whnf); first |(refine Or.inl ⟨by rfl,_,c1,?_⟩) |(refine Or.inl ⟨by rfl,_,c2,?_⟩) |(refine Or.inl ⟨by rfl,_,c3,?_⟩) |((refine ex_but 2 ?_; refine And.intro ?_ ?_; focus ((repeat' (first | exact trivial | exact rfl | (refine And.intro ?_ ?_) | omega | exact Nat.le_of_ble_eq_true rfl | ((conv=>whnf); first | exact trivial | exact rfl | (refine And.intro ?_ ?_)))); done))) |(exact rfl) |((refine And.intro ?_ ?_; focus ((repeat' (first | exact trivial | exact rfl | (refine And.intro ?_ ?_) | omega | exact Nat.le_of_ble_eq_true rfl | ((conv=>whnf); first | exact trivial | exact rfl | (refine And.intro ?_ ?_)))); done))) | refine Br.tt ?_ | refine Br.ff ?_ | fail
      all_goals exact rfl
  | false =>
    rw [h] at c1
    have c4:=fs_cCut0 rows cols st col val h
    cases h2 : dR n f v with
    | true =>
      rw [h2] at c2
      repeat' (conv=>whnf); first |(refine Or.inl ⟨by rfl,_,c1,?_⟩) |(refine Or.inl ⟨by rfl,_,c2,?_⟩) |(refine Or.inl ⟨by rfl,_,c4,?_⟩) |((refine ex_but 2 ?_; refine And.intro ?_ ?_; focus ((repeat' (first | exact trivial | exact rfl | (refine And.intro ?_ ?_) | omega | exact Nat.le_of_ble_eq_true rfl | ((conv=>whnf); first | exact trivial | exact rfl | (refine And.intro ?_ ?_)))); done))) |(exact rfl) |((refine And.intro ?_ ?_; focus ((repeat' (first | exact trivial | exact rfl | (refine And.intro ?_ ?_) | omega | exact Nat.le_of_ble_eq_true rfl | ((conv=>whnf); first | exact trivial | exact rfl | (refine And.intro ?_ ?_)))); done))) | refine Br.tt ?_ | refine Br.ff ?_ | fail
      all_goals exact rfl
    | false =>
      rw [h2] at c2
      repeat' (conv=>whnf); first |(refine Or.inl ⟨by rfl,_,c1,?_⟩) |(refine Or.inl ⟨by rfl,_,c2,?_⟩) |(refine Or.inl ⟨by rfl,_,c3,?_⟩) |(refine Or.inl ⟨by rfl,_,c4,?_⟩) |((refine ex_but 2 ?_; refine And.intro ?_ ?_; focus ((repeat' (first | exact trivial | exact rfl | (refine And.intro ?_ ?_) | omega | exact Nat.le_of_ble_eq_true rfl | ((conv=>whnf); first | exact trivial | exact rfl | (refine And.intro ?_ ?_)))); done))) |(exact rfl) |((refine And.intro ?_ ?_; focus ((repeat' (first | exact trivial | exact rfl | (refine And.intro ?_ ?_) | omega | exact Nat.le_of_ble_eq_true rfl | ((conv=>whnf); first | exact trivial | exact rfl | (refine And.intro ?_ ?_)))); done))) | refine Br.tt ?_ | fail
      all_goals exact rfl
end
end Go.Proofs.YtelbhbadkbcakaaGreat
