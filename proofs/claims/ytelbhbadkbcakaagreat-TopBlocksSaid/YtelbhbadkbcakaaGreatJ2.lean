/- The heap's own functions on a merger. What stands behind may stay behind. A merger: what is put on it, and its next. A merger's next. -/
import Derived.Test.YtelbhbadkbcakaaGreatJ1
namespace Go.Proofs.YtelbhbadkbcakaaGreat
section
open Go.RowKit
attribute [local irreducible] FS FO IT HS
theorem swp_len (L : List Hd) (i j : Nat) : (swpL L i j).length = L.length:=by simp [swpL]
def atH (L : List Hd) (i : Nat) : Hd:=L.getD i ([],0)
theorem at_mem {L : List Hd} {i : Nat} (h : i < L.length) : atH L i ∈ L:=by
  simp [atH,h]
theorem swp_all {p : Hd -> Prop} {L : List Hd} {i j : Nat} (h : ∀ x ∈ L,p x) (hi : i < L.length) (hj : j < L.length) : ∀ x ∈ swpL L i j,p x:=by
  intro x hx
  have h1 : p (L.getD i ([],0)):=h _ (at_mem hi)
  have h2 : p (L.getD j ([],0)):=h _ (at_mem hj)
  unfold swpL at hx
  rcases List.mem_or_eq_of_mem_set hx with hx | rfl
  . rcases List.mem_or_eq_of_mem_set hx with hx | rfl
    . exact h x hx
    . exact h2
  . exact h1
def upH : Nat -> List Hd -> Nat -> List Hd
  | 0,L,_=>L
  | f + 1,L,j=>if (j - 1) / 2 = j \/ ltH (atH L j) (atH L ((j - 1) / 2)) = false then L else upH f (swpL L ((j - 1) / 2) j) ((j - 1) / 2)
def kidH (L : List Hd) (n i : Nat) : Nat:=if 2 * i + 2 < n /\ ltH (atH L (2 * i + 2)) (atH L (2 * i + 1)) = true then 2 * i + 2 else 2 * i + 1
def dnH : Nat -> List Hd -> Nat -> Nat -> List Hd
  | 0,L,_,_=>L
  | f + 1,L,n,i=>if 2 * i + 1 < n then (if ltH (atH L (kidH L n i)) (atH L i) = true then dnH f (swpL L i (kidH L n i)) n (kidH L n i) else L) else L
noncomputable def ir_container_heap_up : IR :=
(.block 0 (.loop (.block 1 (.seq (.reg (⟨some 5,.mv (.t 1),none⟩::⟨some 6,.bin .sub (.t 5) (.c (.int .i64 1)),none⟩::⟨some 7,.bin .quo (.t 6) (.c (.int .i64 2)),none⟩::⟨some 4,.mv (.t 7),none⟩::[])) (.seq (.seq (.reg (⟨some 8,.mv (.t 4),none⟩::⟨some 9,.mv (.t 1),none⟩::⟨some 10,.bin .eql (.t 8) (.t 9),none⟩::⟨some 11,.mv (.t 10),none⟩::⟨some 12,.mv (.t 0),some (11,false)⟩::⟨some 13,.mv (.t 1),some (11,false)⟩::⟨some 14,.mv (.t 4),some (11,false)⟩::⟨some 15,.oth (opAt Tryz.f118 11),some (11,false)⟩::⟨some 16,.un .not (.t 15),some (11,false)⟩::⟨some 17,.pick (.t 11) (.c (.bool true)) (.t 16),none⟩::[])) (.cond (.t 17) (.exit 0) .skip)) (.seq (.reg (⟨some 18,.mv (.t 0),none⟩::⟨some 19,.mv (.t 4),none⟩::⟨some 20,.mv (.t 1),none⟩::⟨some 21,.oth (opAt Tryz.f118 17),none⟩::[])) (.reg (⟨some 22,.mv (.t 4),none⟩::⟨some 1,.mv (.t 22),none⟩::[]))))))))
theorem cd_container_heap_up : Code1 Tryz.prog 118 23 ir_container_heap_up []:=⟨Tryz.call118,_,_,Tryz.func118,rfl,by kernel_rfl,by kernel_rfl,by kernel_rfl,by kernel_rfl⟩
noncomputable def ir_container_heap_down : IR :=
(.seq (.reg (⟨some 6,.mv (.c (.bool false)),none⟩::[])) (.seq (.reg (⟨some 11,.mv (.t 1),none⟩::⟨some 7,.mv (.t 11),none⟩::[])) (.seq (.block 0 (.loop (.block 1 (.seq (.reg (⟨some 12,.mv (.t 7),none⟩::⟨some 13,.bin .mul (.c (.int .i64 2)) (.t 12),none⟩::⟨some 14,.bin .add (.t 13) (.c (.int .i64 1)),none⟩::⟨some 8,.mv (.t 14),none⟩::[])) (.seq (.seq (.reg (⟨some 15,.mv (.t 8),none⟩::⟨some 16,.mv (.t 2),none⟩::⟨some 17,.bin .geq (.t 15) (.t 16),none⟩::⟨some 18,.mv (.t 17),none⟩::⟨some 19,.mv (.t 8),some (18,false)⟩::⟨some 20,.bin .lss (.t 19) (.c (.int .i64 0)),some (18,false)⟩::⟨some 21,.pick (.t 18) (.c (.bool true)) (.t 20),none⟩::[])) (.cond (.t 21) (.exit 0) .skip)) (.seq (.reg (⟨some 22,.mv (.t 8),none⟩::⟨some 9,.mv (.t 22),none⟩::[])) (.seq (.seq (.reg (⟨some 23,.mv (.t 8),none⟩::⟨some 24,.bin .add (.t 23) (.c (.int .i64 1)),none⟩::⟨some 10,.mv (.t 24),none⟩::[])) (.seq (.reg (⟨some 25,.mv (.t 10),none⟩::⟨some 26,.mv (.t 2),none⟩::⟨some 27,.bin .lss (.t 25) (.t 26),none⟩::⟨some 28,.mv (.t 27),none⟩::⟨some 29,.mv (.t 0),some (28,true)⟩::⟨some 30,.mv (.t 10),some (28,true)⟩::⟨some 31,.mv (.t 8),some (28,true)⟩::⟨some 32,.oth (opAt Tryz.f119 26),some (28,true)⟩::⟨some 33,.pick (.t 28) (.t 32) (.c (.bool false)),none⟩::[])) (.cond (.t 33) (.reg (⟨some 34,.mv (.t 10),none⟩::⟨some 9,.mv (.t 34),none⟩::[])) .skip))) (.seq (.seq (.reg (⟨some 35,.mv (.t 0),none⟩::⟨some 36,.mv (.t 9),none⟩::⟨some 37,.mv (.t 7),none⟩::⟨some 38,.oth (opAt Tryz.f119 33),none⟩::⟨some 39,.un .not (.t 38),none⟩::[])) (.cond (.t 39) (.exit 0) .skip)) (.seq (.reg (⟨some 40,.mv (.t 0),none⟩::⟨some 41,.mv (.t 7),none⟩::⟨some 42,.mv (.t 9),none⟩::⟨some 43,.oth (opAt Tryz.f119 38),none⟩::[])) (.reg (⟨some 44,.mv (.t 9),none⟩::⟨some 7,.mv (.t 44),none⟩::[]))))))))))) (.seq (.reg (⟨some 45,.mv (.t 7),none⟩::⟨some 46,.mv (.t 1),none⟩::⟨some 47,.bin .gtr (.t 45) (.t 46),none⟩::⟨some 6,.mv (.t 47),none⟩::[])) .ret))))
theorem cd_container_heap_down : Code1 Tryz.prog 119 48 ir_container_heap_down [.t 6]:=⟨Tryz.call119,_,_,Tryz.func119,rfl,by kernel_rfl,by kernel_rfl,by kernel_rfl,by kernel_rfl⟩
noncomputable def ir_container_heap_Push : IR :=
(.seq (.reg (⟨some 4,.mv (.t 0),none⟩::⟨some 5,.mv (.t 1),none⟩::⟨some 6,.oth (opAt Tryz.f86 2),none⟩::[])) (.reg (⟨some 7,.mv (.t 0),none⟩::⟨some 8,.mv (.t 0),none⟩::⟨some 9,.oth (opAt Tryz.f86 5),none⟩::⟨some 10,.bin .sub (.t 9) (.c (.int .i64 1)),none⟩::⟨some 11,.call (.c (.fn 118 [])) [(.t 7),(.t 10)],none⟩::[])))
theorem cd_container_heap_Push : Code1 Tryz.prog 86 12 ir_container_heap_Push []:=⟨Tryz.call86,_,_,Tryz.func86,rfl,by kernel_rfl,by kernel_rfl,by kernel_rfl,by kernel_rfl⟩
noncomputable def ir_container_heap_Pop : IR :=
(.seq (.reg (⟨some 2,.mv (.c (.raw .nilIface)),none⟩::[])) (.seq (.reg (⟨some 4,.mv (.t 0),none⟩::⟨some 5,.oth (opAt Tryz.f87 2),none⟩::⟨some 6,.bin .sub (.t 5) (.c (.int .i64 1)),none⟩::⟨some 3,.mv (.t 6),none⟩::[])) (.seq (.reg (⟨some 7,.mv (.t 0),none⟩::⟨some 8,.mv (.t 3),none⟩::⟨some 9,.oth (opAt Tryz.f87 7),none⟩::[])) (.seq (.reg (⟨some 10,.mv (.t 0),none⟩::⟨some 11,.mv (.t 3),none⟩::⟨some 12,.call (.c (.fn 119 [])) [(.t 10),(.c (.int .i64 0)),(.t 11)],none⟩::[])) (.seq (.reg (⟨some 13,.mv (.t 0),none⟩::⟨some 14,.oth (opAt Tryz.f87 12),none⟩::⟨some 2,.mv (.t 14),none⟩::[])) .ret)))))
theorem cd_container_heap_Pop : Code1 Tryz.prog 87 15 ir_container_heap_Pop [.t 2]:=⟨Tryz.call87,_,_,Tryz.func87,rfl,by kernel_rfl,by kernel_rfl,by kernel_rfl,by kernel_rfl⟩
theorem o_upLess : (opAt Tryz.f118 11).op = .call { callee := .invoke (.tmp 12) "Less", args := #[.tmp 13, .tmp 14], argTypes := #[3, 3] } := by kernel_rfl
theorem o_upSwap : (opAt Tryz.f118 17).op = .call { callee := .invoke (.tmp 18) "Swap", args := #[.tmp 19, .tmp 20], argTypes := #[3, 3] } := by kernel_rfl
theorem o_dnLess : (opAt Tryz.f119 26).op = .call { callee := .invoke (.tmp 29) "Less", args := #[.tmp 30, .tmp 31], argTypes := #[3, 3] } := by kernel_rfl
theorem o_dnLess2 : (opAt Tryz.f119 33).op = .call { callee := .invoke (.tmp 35) "Less", args := #[.tmp 36, .tmp 37], argTypes := #[3, 3] } := by kernel_rfl
theorem o_dnSwap : (opAt Tryz.f119 38).op = .call { callee := .invoke (.tmp 40) "Swap", args := #[.tmp 41, .tmp 42], argTypes := #[3, 3] } := by kernel_rfl
theorem o_puPush : (opAt Tryz.f86 2).op = .call { callee := .invoke (.tmp 4) "Push", args := #[.tmp 5], argTypes := #[20] } := by kernel_rfl
theorem o_puLen : (opAt Tryz.f86 5).op = .call { callee := .invoke (.tmp 8) "Len", args := #[], argTypes := #[] } := by kernel_rfl
theorem o_poLen : (opAt Tryz.f87 2).op = .call { callee := .invoke (.tmp 4) "Len", args := #[], argTypes := #[] } := by kernel_rfl
theorem o_poSwap : (opAt Tryz.f87 7).op = .call { callee := .invoke (.tmp 7) "Swap", args := #[.const (.int .i64 0), .tmp 8], argTypes := #[3, 3] } := by kernel_rfl
theorem o_poPop : (opAt Tryz.f87 12).op = .call { callee := .invoke (.tmp 13) "Pop", args := #[], argTypes := #[] } := by kernel_rfl
theorem kid_lt {L : List Hd} {n i : Nat} (h : 2 * i + 1 < n) : kidH L n i < n /\ i < kidH L n i:=by
  unfold kidH; split <;> omega
theorem kid_a {L : List Hd} {n i : Nat} (h : 2 * i + 2 < n) (h' : ltH (atH L (2 * i + 2)) (atH L (2 * i + 1)) = true) : kidH L n i = 2 * i + 2:=by simp [kidH,h,h']
theorem kid_b {L : List Hd} {n i : Nat} (h' : ltH (atH L (2 * i + 2)) (atH L (2 * i + 1)) = false) : kidH L n i = 2 * i + 1:=by simp [kidH,h']
theorem kid_c {L : List Hd} {n i : Nat} (h : ¬ 2 * i + 2 < n) : kidH L n i = 2 * i + 1:=by simp [kidH,h]
theorem hx_LessI {X : World -> (Nat -> Prop) -> List (Option Nat) -> Prop} (hK : Known 3 3 [] X) {r : Int} {L : List Hd} {O : List (Int × Int)} {p q : Int} (i j : Nat) (hL : ∀ x ∈ L,0 < x.1.length) (hl : L.length <= 1000000000) (hp : p = (i : Int)) (hq : q = (j : Int)) (hi : i < L.length) (hj : j < L.length) : HX Tryz.prog 187 X [.osl 1 2 0 L.length,.int .i64 p,.int .i64 q] (HM r L O) (.bool (ltH (atH L i) (atH L j))) (HM r L O) []:=by
  subst hp hq
  exact hx_of_hs (hs_Less r L O i j hi hj hL hl) hK
theorem hx_SwapI {X : World -> (Nat -> Prop) -> List (Option Nat) -> Prop} (hK : Known 3 3 [] X) {r : Int} {L : List Hd} {O : List (Int × Int)} {p q : Int} (i j : Nat) (hl : L.length <= 1000000000) (hp : p = (i : Int)) (hq : q = (j : Int)) (hi : i < L.length) (hj : j < L.length) : HX Tryz.prog 190 X [.osl 1 2 0 L.length,.int .i64 p,.int .i64 q] (HM r L O) (.tup []) (HM r (swpL L i j) O) []:=by
  subst hp hq
  exact hx_of_hs (hs_Swap r L O i j hi hj hl) hK
section
variable {X : World -> (Nat -> Prop) -> List (Option Nat) -> Prop} {b : Nat} (hX0 : ∀ w A β,X w A β -> β[0]? = some (some b)) (hK : Known 3 3 [] X) {r : Int} {O : List (Int × Int)}
include hX0 hK
theorem hx_up (L : List Hd) (j0 : Nat) (hj : j0 < L.length) (hL : ∀ x ∈ L,0 < x.1.length) (hl : L.length <= 1000000000) (f0 : Nat) (hf : j0 < f0) : HX Tryz.prog 118 X [.raw (hpI b),.int .i64 (j0 : Int)] (HM r L O) (.tup []) (HM r (upH f0 L j0) O) []:=by
  refine hx_of_cvc mixed cd_container_heap_up hK (by simp) ?_
  repeat' (conv=>whnf); first | fail
  refine ⟨List Hd × Nat × Nat,fun s=>s.1.length = L.length /\ (∀ x ∈ s.1,0 < x.1.length) /\ s.2.1 < s.1.length /\ s.2.1 < s.2.2 /\ upH s.2.2 s.1 s.2.1 = upH f0 L j0,fun s=>[(0,.raw (hpI b)),(1,.int .i64 (s.2.1 : Int))],fun s=>HM r s.1 O,fun _=>none,fun s=>s.2.1,⟨(L,j0,f0),⟨rfl,hL,hj,hf,rfl⟩,⟨rfl,rfl,trivial⟩,⟨⟨rfl,rfl,rfl,trivial⟩,rfl,rfl,trivial⟩,rfl⟩,fun s hs=>?_⟩
  obtain ⟨L',j,f⟩:=s
  obtain ⟨g1,g2,g3,g4,g5⟩:=hs
  have h1 : L'.length = L.length:=g1
  have h2 : ∀ x ∈ L',0 < x.1.length:=g2
  have h3 : j < L'.length:=g3
  have h4 : j < f:=g4
  have h5 : upH f L' j = upH f0 L j0:=g5
  have e1 : ((j : Int) - 1).tdiv 2 = (((j - 1) / 2 : Nat) : Int):=by
    rcases Nat.eq_zero_or_pos j with rfl | hp
    . rfl
    . rw [Int.tdiv_eq_ediv_of_nonneg (by omega)]; omega
  obtain ⟨i,hi⟩ : ∃ i,(j - 1) / 2 = i:=⟨_,rfl⟩
  rw [hi] at e1
  have hij : i <= j:=by omega
  have c1:=hx_of_hs (hs_Less r L' O j i h3 (by omega) h2 (by omega)) hK
  have c2:=hx_of_hs (hs_Swap r L' O i j (by omega) h3 (by omega)) hK
  obtain ⟨f',rfl⟩ : ∃ f',f = f' + 1:=⟨f - 1,by omega⟩
  rw [upH,hi] at h5
  repeat' (conv=>whnf); first | refine And.intro rfl ?_ |(refine And.intro (by omega) ?_) |(refine ⟨_,Or.inl ⟨⟨by omega,by omega⟩,rfl⟩,?_⟩) | fail
  show arK .i64 (((j : Int) - 1).tdiv 2) _
  rw [e1]
  repeat' (conv=>whnf); first |(refine sem_invoke o_upLess rfl rfl (at_val hX0 run_hLess) rfl c1 (by simp) (Nat.le_refl _) ?_) |(refine sem_invoke o_upSwap rfl rfl (at_val hX0 run_hSwap) rfl c2 (by simp) (Nat.le_refl _) ?_) | refine Br.tt ?_ | refine Br.ff ?_ |(refine Br.dec (fun h=>?_) (fun h=>?_)) <;> try (exfalso; omega) | refine Br.neg ?_ | refine And.intro rfl ?_ |(refine ⟨_,Or.inl ⟨⟨by omega,by omega⟩,rfl⟩,?_⟩) | fail
  . have hij' : i = j:=by
      have h' : (i : Int) = (j : Int):=h
      omega
    rw [if_pos (.inl hij')] at h5
    rw [<- h5]
    exact ⟨⟨rfl,rfl,rfl,trivial⟩,rfl,rfl,trivial⟩
  . rename_i hne
    have hne' : ¬ (i : Int) = (j : Int):=hne
    have hlt : ltH (atH L' j) (atH L' i) = true:=by
      simpa [ltH,atH] using h
    rw [if_neg (by rw [hlt]; simp; omega)] at h5
    exact ⟨(swpL L' i j,i,f'),⟨by rw [swp_len]; exact h1,swp_all h2 (by omega) h3,(show i < (swpL L' i j).length by rw [swp_len]; omega),(show i < f' by omega),h5⟩,(show i < j by omega),⟨rfl,rfl,trivial⟩,⟨⟨rfl,rfl,rfl,trivial⟩,rfl,rfl,trivial⟩,rfl⟩
  . have hlt : ltH (atH L' j) (atH L' i) = false:=by
      simpa [ltH,atH] using h
    rw [if_pos (.inr hlt)] at h5
    rw [<- h5]
    exact ⟨⟨rfl,rfl,rfl,trivial⟩,rfl,rfl,trivial⟩
theorem hx_down (L : List Hd) (n i0 : Nat) (hn : n <= L.length) (hi0 : i0 <= n) (hL : ∀ x ∈ L,0 < x.1.length) (hl : L.length <= 1000000000) (f0 : Nat) (hf : n < i0 + f0) : HX Tryz.prog 119 X [.raw (hpI b),.int .i64 (i0 : Int),.int .i64 (n : Int)] (HM r L O) .any (HM r (dnH f0 L n i0) O) []:=by
  refine hx_of_cvc mixed cd_container_heap_down hK (by simp) ?_
  repeat' (conv=>whnf); first | fail
  refine ⟨List Hd × Nat × Nat,fun s=>s.1.length = L.length /\ (∀ x ∈ s.1,0 < x.1.length) /\ s.2.1 <= n /\ n < s.2.1 + s.2.2 /\ dnH s.2.2 s.1 n s.2.1 = dnH f0 L n i0,fun s=>[(0,.raw (hpI b)),(1,.int .i64 (i0 : Int)),(2,.int .i64 (n : Int)),(7,.int .i64 (s.2.1 : Int))],fun s=>HM r s.1 O,fun _=>none,fun s=>n - s.2.1,⟨(L,i0,f0),⟨rfl,hL,hi0,hf,rfl⟩,⟨rfl,rfl,rfl,rfl,trivial⟩,⟨⟨rfl,rfl,rfl,trivial⟩,rfl,rfl,trivial⟩,rfl⟩,fun s hs=>?_⟩
  obtain ⟨h1,h2,h3,h4,h5⟩:=hs
  obtain ⟨f',hf'⟩ : ∃ f',s.2.2 = f' + 1:=⟨s.2.2 - 1,by omega⟩
  rw [hf',dnH] at h5
  have hl' : s.1.length <= 1000000000:=by omega
  repeat' (conv=>whnf); first |(refine sem_invoke o_dnLess rfl rfl (at_val hX0 run_hLess) rfl (hx_LessI hK (2 * s.2.1 + 2) (2 * s.2.1 + 1) h2 hl' (by omega) (by omega) (by omega) (by omega)) (by simp) (Nat.le_refl _) ?_) |(refine sem_invoke o_dnLess2 rfl rfl (at_val hX0 run_hLess) rfl (hx_LessI hK (2 * s.2.1 + 2) s.2.1 h2 hl' (by omega) (by omega) (by omega) (by omega)) (by simp) (Nat.le_refl _) ?_) |(refine sem_invoke o_dnLess2 rfl rfl (at_val hX0 run_hLess) rfl (hx_LessI hK (2 * s.2.1 + 1) s.2.1 h2 hl' (by omega) (by omega) (by omega) (by omega)) (by simp) (Nat.le_refl _) ?_) |(refine sem_invoke o_dnSwap rfl rfl (at_val hX0 run_hSwap) rfl (hx_SwapI hK s.2.1 (2 * s.2.1 + 2) hl' (by omega) (by omega) (by omega) (by omega)) (by simp) (Nat.le_refl _) ?_) |(refine sem_invoke o_dnSwap rfl rfl (at_val hX0 run_hSwap) rfl (hx_SwapI hK s.2.1 (2 * s.2.1 + 1) hl' (by omega) (by omega) (by omega) (by omega)) (by simp) (Nat.le_refl _) ?_) | refine Br.tt ?_ | refine Br.ff ?_ |(refine Br.dec (fun h=>?_) (fun h=>?_)) <;> try (exfalso; omega) | refine Br.neg ?_ | refine And.intro rfl ?_ |(refine ⟨_,Or.inl ⟨⟨by omega,by omega⟩,rfl⟩,?_⟩) | fail
  . rw [if_neg (by omega)] at h5
    rw [<- h5]
    exact ⟨trivial,⟨rfl,rfl,rfl,trivial⟩,rfl,rfl,trivial⟩
  . rename_i hc hd ha
    have hk:=kid_a (L:=s.1) (n:=n) (i:=s.2.1) (by omega) (by simpa [ltH,atH] using ha)
    rw [if_pos (by omega),hk,if_pos (by simpa [ltH,atH] using h)] at h5
    exact ⟨(swpL s.1 s.2.1 (2 * s.2.1 + 2),2 * s.2.1 + 2,f'),⟨by rw [swp_len]; exact h1,swp_all h2 (by omega) (by omega),(show 2 * s.2.1 + 2 <= n by omega),(show n < 2 * s.2.1 + 2 + f' by omega),h5⟩,(show n - (2 * s.2.1 + 2) < n - s.2.1 by omega),⟨rfl,rfl,rfl,rfl,trivial⟩,⟨⟨rfl,rfl,rfl,trivial⟩,rfl,rfl,trivial⟩,rfl⟩
  . rename_i hc hd ha
    have hk:=kid_a (L:=s.1) (n:=n) (i:=s.2.1) (by omega) (by simpa [ltH,atH] using ha)
    rw [if_pos (by omega),hk,if_neg (by simpa [ltH,atH] using h)] at h5
    rw [<- h5]
    exact ⟨trivial,⟨rfl,rfl,rfl,trivial⟩,rfl,rfl,trivial⟩
  . rename_i hc hd ha
    have hk:=kid_b (L:=s.1) (n:=n) (i:=s.2.1) (by simpa [ltH,atH] using ha)
    rw [if_pos (by omega),hk,if_pos (by simpa [ltH,atH] using h)] at h5
    exact ⟨(swpL s.1 s.2.1 (2 * s.2.1 + 1),2 * s.2.1 + 1,f'),⟨by rw [swp_len]; exact h1,swp_all h2 (by omega) (by omega),(show 2 * s.2.1 + 1 <= n by omega),(show n < 2 * s.2.1 + 1 + f' by omega),h5⟩,(show n - (2 * s.2.1 + 1) < n - s.2.1 by omega),⟨rfl,rfl,rfl,rfl,trivial⟩,⟨⟨rfl,rfl,rfl,trivial⟩,rfl,rfl,trivial⟩,rfl⟩
  . rename_i hc hd ha
    have hk:=kid_b (L:=s.1) (n:=n) (i:=s.2.1) (by simpa [ltH,atH] using ha)
    rw [if_pos (by omega),hk,if_neg (by simpa [ltH,atH] using h)] at h5
    rw [<- h5]
    exact ⟨trivial,⟨rfl,rfl,rfl,trivial⟩,rfl,rfl,trivial⟩
  . rename_i hc hd
    have hk:=kid_c (L:=s.1) (n:=n) (i:=s.2.1) (by omega)
    rw [if_pos (by omega),hk,if_pos (by simpa [ltH,atH] using h)] at h5
    exact ⟨(swpL s.1 s.2.1 (2 * s.2.1 + 1),2 * s.2.1 + 1,f'),⟨by rw [swp_len]; exact h1,swp_all h2 (by omega) (by omega),(show 2 * s.2.1 + 1 <= n by omega),(show n < 2 * s.2.1 + 1 + f' by omega),h5⟩,(show n - (2 * s.2.1 + 1) < n - s.2.1 by omega),⟨rfl,rfl,rfl,rfl,trivial⟩,⟨⟨rfl,rfl,rfl,trivial⟩,rfl,rfl,trivial⟩,rfl⟩
  . rename_i hc hd
    have hk:=kid_c (L:=s.1) (n:=n) (i:=s.2.1) (by omega)
    rw [if_pos (by omega),hk,if_neg (by simpa [ltH,atH] using h)] at h5
    rw [<- h5]
    exact ⟨trivial,⟨rfl,rfl,rfl,trivial⟩,rfl,rfl,trivial⟩
end
theorem wrel_less {r : Int} {L : List Hd} {n : Nat} {O : List (Int × Int)} {w : World} {A : Nat -> Prop} {β : List (Option Nat)} (h : WRel w A β [.vars [.osl 1 2 0 n,.int .i64 r,.osl 2 3 0 O.length],.arr 2 (hds L),.arr 3 (sms O)]) (hn : n <= L.length) : WRel w A β (HM r (L.take n) O):=by
  have hl : (L.take n).length = n:=by simp; omega
  refine ⟨h.len,h.inj,h.own,fun k o blk hk hb=>?_⟩
  match k with
  | 0 =>
    cases hb
    rw [hl]
    exact h.blk 0 o _ hk rfl
  | 1 =>
    cases hb
    have:=h.blk 1 o _ hk rfl
    cases o with
    | none=>trivial
    | some b =>
      obtain ⟨cs,T,h1,h2,h3⟩:=this
      refine ⟨cs,T,h1,by rw [hds_len] at *; rw [hl]; have:=Nat.mul_le_mul_right 2 hn; omega,fun i x hx=>h3 i x ?_⟩
      simp only [hds,List.getElem?_map,Option.map_eq_some_iff,List.getElem?_take] at hx ⊢
      obtain ⟨y,hy,rfl⟩:=hx
      split at hy
      . exact ⟨y,hy,rfl⟩
      . cases hy
  | 2=>cases hb; exact h.blk 2 o _ hk rfl
  | k + 3=>simp [HM] at hb
section
variable {X : World -> (Nat -> Prop) -> List (Option Nat) -> Prop} {b : Nat} (hX0 : ∀ w A β,X w A β -> β[0]? = some (some b)) {r : Int} {O : List (Int × Int)}
include hX0
def puH (L : List Hd) (x : Hd) : List Hd:=upH (L.length + 1) (L ++ [x]) L.length
def poH (L : List Hd) : List Hd:=(dnH L.length (swpL L 0 (L.length - 1)) (L.length - 1) 0).take (L.length - 1)
theorem hx_Push (hK : Known 3 3 [1] X) (L : List Hd) (l : List (Int × Int)) (k : Int) (u : Value) (hX : ∀ w A β,X w A β -> Rep w A [] (SM l) u) (hL : ∀ x ∈ L,0 < x.1.length) (hll : 0 < l.length) (hl : L.length <= 100000000) : HX Tryz.prog 86 X [.raw (hpI b),.raw (.iface 150 (.agg #[u,.int .i64 k]))] (HM r L O) (.tup []) (HM r (puH L (l,k)) O) [1]:=by
  refine hx_of_cvc mixed cd_container_heap_Push hK (by simp) ?_
  have hlen : (L ++ [(l,k)]).length = L.length + 1:=by simp
  have c1:=hx_hPush hK r L l k u hX O (by omega)
  have c2:=hx_of_hs (X:=X) (hs_Len r (L ++ [(l,k)]) O) hK.sub
  have c3 : HX Tryz.prog 118 X [.raw (hpI b),.int .i64 (((L ++ [(l,k)]).length : Int) - 1)] (HM r (L ++ [(l,k)]) O) (.tup []) (HM r (puH L (l,k)) O) []:=by
    rw [hlen,show ((L.length + 1 : Nat) : Int) - 1 = (L.length : Int) by omega]
    exact hx_up hX0 hK.sub (r:=r) (O:=O) (L ++ [(l,k)]) L.length (by omega) (fun x hx=>by
      rcases List.mem_append.1 hx with hx | hx
      . exact hL x hx
      . rw [List.mem_singleton.1 hx]; exact hll) (by omega) (L.length + 1) (by omega)
  repeat' (conv=>whnf); first |(refine sem_invoke o_puPush rfl rfl (at_ptr hX0 run_hPush) rfl c1 (by simp) (Nat.le_refl _) ?_) |(refine sem_invoke o_puLen rfl rfl (at_val hX0 run_hLen) rfl c2 (by simp) (Nat.le_refl _) ?_) |(refine sem_call rfl rfl c3 (by simp) (Nat.le_refl _) ?_) | refine And.intro rfl ?_ |(refine ⟨_,Or.inl ⟨⟨by omega,by omega⟩,rfl⟩,?_⟩) | fail
  exact ⟨⟨rfl,rfl,rfl,trivial⟩,rfl,rfl,trivial⟩
theorem hx_Pop (hK : Known 3 3 [] X) (L : List Hd) (hL : ∀ x ∈ L,0 < x.1.length) (h0 : 0 < L.length) (hl : L.length <= 100000000) : HX Tryz.prog 87 X [.raw (hpI b)] (HM r L O) .any (HM r (poH L) O) []:=by
  refine hx_of_cvc mixed cd_container_heap_Pop hK (by simp) ?_
  have hs : (swpL L 0 (L.length - 1)).length = L.length:=swp_len _ _ _
  have hd : ∀ (f : Nat) (M : List Hd) (n i : Nat),(dnH f M n i).length = M.length:=by
    intro f
    induction f with
    | zero=>intros; rfl
    | succ f ih =>
      intro M n i
      rw [dnH]
      split
      . split
        . rw [ih,swp_len]
        . rfl
      . rfl
  have c1:=hx_of_hs (X:=X) (hs_Len r L O) hK
  have c2 : HX Tryz.prog 190 X [.osl 1 2 0 L.length,.int .i64 0,.int .i64 ((L.length : Int) - 1)] (HM r L O) (.tup []) (HM r (swpL L 0 (L.length - 1)) O) []:=hx_SwapI hK 0 (L.length - 1) (by omega) rfl (by omega) h0 (by omega)
  have c3 : HX Tryz.prog 119 X [.raw (hpI b),.int .i64 0,.int .i64 ((L.length : Int) - 1)] (HM r (swpL L 0 (L.length - 1)) O) .any (HM r (dnH L.length (swpL L 0 (L.length - 1)) (L.length - 1) 0) O) []:=by
    rw [show (L.length : Int) - 1 = ((L.length - 1 : Nat) : Int) by omega]
    exact hx_down hX0 hK (swpL L 0 (L.length - 1)) (L.length - 1) 0 (by omega) (by omega) (swp_all hL h0 (by omega)) (by omega) L.length (by omega)
  have c4 : HX Tryz.prog 188 X [.ptr 0 1 0 0] (HM r (dnH L.length (swpL L 0 (L.length - 1)) (L.length - 1) 0) O) .any (HM r (poH L) O) [] :=
    (hx_hPop hK r (dnH L.length (swpL L 0 (L.length - 1)) (L.length - 1) 0) (L.length - 1) (by rw [hd,hs]; omega) O (by rw [hd,hs]; omega)).less fun w A β h=>wrel_less h (by rw [hd,hs]; omega)
  repeat' (conv=>whnf); first |(refine sem_invoke o_poLen rfl rfl (at_val hX0 run_hLen) rfl c1 (by simp) (Nat.le_refl _) ?_) |(refine sem_invoke o_poSwap rfl rfl (at_val hX0 run_hSwap) rfl c2 (by simp) (Nat.le_refl _) ?_) |(refine sem_call rfl rfl c3 (by simp) (Nat.le_refl _) ?_) |(refine sem_invoke o_poPop rfl rfl (at_ptr hX0 run_hPop) rfl c4 (by simp) (Nat.le_refl _) ?_) | refine And.intro rfl ?_ |(refine ⟨_,Or.inl ⟨⟨by omega,by omega⟩,rfl⟩,?_⟩) | fail
  exact ⟨trivial,⟨rfl,rfl,rfl,trivial⟩,rfl,rfl,trivial⟩
end
end
section
open Go.Proofs.YtelbhbadkbcakaaGreat Go.RowKit
def pureT : List Blk -> Bool
  | []=>true
  | .vars cs::T=>SV.pure.pureL cs && pureT T
  | _::T=>pureT T
theorem pureT_mem : ∀ {T : List Blk},pureT T = true -> ∀ (k : Nat) (cs : List SV),T[k]? = some (.vars cs) -> SV.pure.pureL cs = true
  | [],_,k,cs,h=>by simp at h
  | b :: T, h, 0, cs, hk => by
    obtain rfl : b = .vars cs:=by simpa using hk
    simp only [pureT,Bool.and_eq_true] at h
    exact h.1
  | b :: T, h, k + 1, cs, hk => by
    have h' : pureT T = true:=by
      cases b with
      | vars cs'=>simp only [pureT,Bool.and_eq_true] at h; exact h.2
      | _=>exact h
    exact pureT_mem h' k cs (by simpa using hk)
theorem wrel_front {w : World} {A : Nat -> Prop} {β : List (Option Nat)} {H T : List Blk} (h : WRel w A β (H ++ T)) (hb : bndH H.length H = true) : WRel w A (β.take H.length) H:=by
  have hl:=h.len
  simp only [List.length_append] at hl
  have get : ∀ (k : Nat) (o : Option Nat),(β.take H.length)[k]? = some o -> k < H.length /\ β[k]? = some o:=fun k o hk=>by
    have hlt:=(List.getElem?_eq_some_iff.1 hk).1
    have hlt' : k < H.length:=by simp at hlt; omega
    rw [List.getElem?_take_of_lt hlt'] at hk
    exact ⟨hlt',hk⟩
  refine ⟨by simp; omega,fun k k' b hk hk'=>h.inj k k' b (get k _ hk).2 (get k' _ hk').2,fun k b hk=>h.own k b (get k _ hk).2,fun k o blk hk hbk=>?_⟩
  obtain ⟨hlt,hk⟩:=get k o hk
  have hr:=h.blk k o blk hk (by rw [List.getElem?_append_left hlt]; exact hbk)
  cases o with
  | none=>trivial
  | some b =>
    cases blk with
    | dead=>trivial
    | shut=>trivial
    | arr wd xs=>exact hr
    | vars cells =>
      obtain ⟨cs,T',h1,h2,h3⟩:=hr
      exact ⟨cs,T',h1,h2,fun j c v hc hv=>(h3 j c v hc hv).trunc _ (bndL_mem (bndH_mem _ hb k cells hbk) j c hc)⟩
theorem HX.frame {P : Program} {f : FuncId} {X : World -> (Nat -> Prop) -> List (Option Nat) -> Prop} {args : List SV} {H H' : List Blk} {res : SV} {js : List Nat} (T : List Blk) (h : HX P f X args H res H' js) (hlen : H'.length = H.length) (hb : bndH H.length H = true) (ha : SV.bnd.bndL H.length args = true) (hT : pureT T = true) {n M : Nat} (hn : n <= H.length) (hK : Known n M js X) :
    HX P f X args (H ++ T) res (H' ++ T) js:=by
  simp only [HX]
  refine ⟨h.enter,fun w A β vs hfin hW hX hr=>?_⟩
  have hl:=hW.len
  simp only [List.length_append] at hl
  have htk : ∀ k,k < H.length -> (β.take H.length)[k]? = β[k]?:=fun k hk=>List.getElem?_take_of_lt hk
  have hmem : ∀ b,some b ∈ β.take H.length -> some b ∈ β:=fun b hb=>List.mem_of_mem_take hb
  have hX1 : X w A (β.take H.length):=hK.names _ _ _ _ (fun b hb=>by obtain ⟨k,hk⟩:=mem_name (hmem b hb); exact (hW.own k b hk).1) (fun k hk=>htk k (by omega)) hX
  have hr1 : Reps w A (β.take H.length) args vs:=⟨hr.1,fun i x v h1 h2=>(hr.2 i x v h1 h2).trunc _ (bndL_mem ha i x h1)⟩
  refine (h.calls hfin (wrel_front hW hb) hX1 hr1).mono ?_
  rintro e w' ⟨v,A',β',he,hX',hc,hrep⟩
  have hl' : β'.length = H.length:=by rw [hc.rel.len,hlen]
  have g1 : ∀ k,k < H.length -> (β' ++ β.drop H.length)[k]? = β'[k]?:=fun k hk=>List.getElem?_append_left (by omega)
  have g2 : ∀ k,H.length <= k -> (β' ++ β.drop H.length)[k]? = β[k]?:=fun k hk=>by
    rw [List.getElem?_append_right (by omega),List.getElem?_drop,hl']
    congr 1; omega
  have hsep : ∀ (k k' b : Nat),H.length <= k -> β[k]? = some (some b) -> β'[k']? = some (some b) -> False:=fun k k' b hk h1 h2=>by
    have hlt:=(hW.own k b h1).2
    have:=hc.fresh k' b h2 hlt
    obtain ⟨i,hi⟩:=mem_name this
    have hil:=(List.getElem?_eq_some_iff.1 hi).1
    have hi2 : i < H.length:=by simp at hil; omega
    rw [htk i hi2] at hi
    have:=hW.inj k i b h1 hi
    omega
  have hkeep : ∀ (k b : Nat),H.length <= k -> β[k]? = some (some b) -> w'.heap[b]? = w.heap[b]?:=fun k b hk h1=>hc.frm.keep b (hW.own k b h1).2 fun hm=>by
    obtain ⟨i,hi⟩:=mem_name hm
    have hil:=(List.getElem?_eq_some_iff.1 hi).1
    have hi2 : i < H.length:=by simp at hil; omega
    rw [htk i hi2] at hi
    have:=hW.inj k i b h1 hi
    omega
  have hstp : Stp A w w':=hc.frm.stp fun k b hk=>by
    have hkl:=(List.getElem?_eq_some_iff.1 hk).1
    have hi2 : k < H.length:=by simp at hkl; omega
    rw [htk k hi2] at hk
    exact (hW.own k b hk).1
  have hA : ∀ b,b < w.heap.size -> A' b -> A b:=fun b hb=>(hc.agree b hb).1
  have hW' : WRel w' A' (β' ++ β.drop H.length) (H' ++ T):=by
    refine ⟨by simp; omega,fun k k' b h1 h2=>?_,fun k b h1=>?_,fun k o blk h1 h2=>?_⟩
    . rcases Nat.lt_or_ge k H.length with hk | hk <;> rcases Nat.lt_or_ge k' H.length with hk' | hk'
      . rw [g1 k hk] at h1; rw [g1 k' hk'] at h2
        exact hc.rel.inj k k' b h1 h2
      . rw [g1 k hk] at h1; rw [g2 k' hk'] at h2
        exact (hsep k' k b hk' h2 h1).elim
      . rw [g2 k hk] at h1; rw [g1 k' hk'] at h2
        exact (hsep k k' b hk h1 h2).elim
      . rw [g2 k hk] at h1; rw [g2 k' hk'] at h2
        exact hW.inj k k' b h1 h2
    . rcases Nat.lt_or_ge k H.length with hk | hk
      . rw [g1 k hk] at h1; exact hc.rel.own k b h1
      . rw [g2 k hk] at h1
        have:=hW.own k b h1
        exact ⟨(hc.agree b this.2).2 this.1,Nat.lt_of_lt_of_le this.2 hc.frm.size⟩
    . rcases Nat.lt_or_ge k H.length with hk | hk
      . rw [g1 k hk] at h1
        rw [List.getElem?_append_left (by omega)] at h2
        have hr:=hc.rel.blk k o blk h1 h2
        cases o with
        | none=>trivial
        | some b =>
          cases blk with
          | dead=>trivial
          | shut=>trivial
          | arr wd xs=>exact hr
          | vars cells =>
            obtain ⟨cs,T',q1,q2,q3⟩:=hr
            exact ⟨cs,T',q1,q2,fun j c v hc hv=>(q3 j c v hc hv).more _ append_get⟩
      . rw [g2 k hk] at h1
        rw [List.getElem?_append_right (by omega)] at h2
        have hr:=hW.blk k o blk h1 (by rw [List.getElem?_append_right hk]; rw [hlen] at h2; exact h2)
        cases o with
        | none=>trivial
        | some b =>
          have hkp:=hkeep k b hk h1
          cases blk with
          | dead=>trivial
          | shut=>trivial
          | arr wd xs =>
            obtain ⟨cs,T',q1,q2,q3⟩:=hr
            refine ⟨cs,T',by rw [hkp]; exact q1,q2,fun i x hx=>⟨(q3 i x hx).1,fun j c hc=>?_⟩⟩
            obtain ⟨v,hv1,hv2⟩:=(q3 i x hx).2 j c hc
            exact ⟨v,hv1,hv2.mono hstp hA⟩
          | vars cells =>
            obtain ⟨cs,T',q1,q2,q3⟩:=hr
            have hp:=pureT_mem hT _ _ h2
            exact ⟨cs,T',by rw [hkp]; exact q1,q2,fun j c v hc hv=>((q3 j c v hc hv).mono hstp hA).purely (pureL_mem hp j c hc) _⟩
  have hX'' : X w' A' (β' ++ β.drop H.length):=hK.names _ _ _ _ (fun b hb=>by obtain ⟨k,hk⟩:=mem_name hb; exact (hW'.own k b hk).1) (fun k hk=>g1 k (by omega)) hX'
  refine ⟨v,A',_,he,hX'',⟨hW',hc.fin,⟨hc.frm.os,hc.frm.tape,hc.frm.output,hc.frm.drn,hc.frm.size,fun b hb hn=>hc.frm.keep b hb fun h=>hn (hmem b h),hc.frm.shp⟩,hc.agree,fun k b hk hb=>?_,fun k hk hn=>?_,by simp; omega⟩,hrep.more _ append_get⟩
  . rcases Nat.lt_or_ge k H.length with h' | h'
    . rw [g1 k h'] at hk; exact hmem b (hc.fresh k b hk hb)
    . rw [g2 k h'] at hk; exact List.mem_of_getElem? hk
  . rcases Nat.lt_or_ge k H.length with h' | h'
    . rw [g1 k h',hc.same k (by simp; omega) fun h=>hn (h.elim (fun h=>by omega) .inr),htk k h']
    . exact g2 k h'
theorem HX.plain {P : Program} {f : FuncId} {args : List SV} {H H' : List Blk} {res : SV} {js : List Nat} (h : HX P f (fun _ _ _=>True) args H res H' js) : HS P f args H res H' js:=by
  refine ⟨h.enter,fun w A β vs hfin hW hr=>(h.calls hfin hW trivial hr).mono ?_⟩
  rintro e w' ⟨v,A',β',he,_,hw,hv⟩
  have hl:=hW.len
  exact ⟨v,A',β',he,hw.frm,hw.fin,hw.rel,hw.agree,hw.fresh,fun k hk hn=>hw.same k hk fun h=>h.elim (fun h=>by omega) hn,hw.more,hv⟩
theorem known_true {n M : Nat} {ks : List Nat} : Known n M ks (fun _ _ _=>True):=⟨fun _ _ _ _ _ _ _ _ _=>trivial,fun _ _ _ _ _ _ _=>trivial⟩
theorem hs_behind {P : Program} {f : FuncId} {args : List SV} {H H' : List Blk} {res : SV} {js : List Nat} (T : List Blk) (h : HS P f args H res H' js) (hlen : H'.length = H.length) (hb : bndH H.length H = true) (ha : SV.bnd.bndL H.length args = true) (hT : pureT T = true) : HS P f args (H ++ T) res (H' ++ T) js :=
  ((hx_of_hs h known_true).frame T hlen hb ha hT (n:=0) (M:=0) (Nat.zero_le _) known_true).plain
theorem hs_args {P : Program} {f : FuncId} {args args' : List SV} {H H' : List Blk} {res : SV} {ks : List Nat} (h : HS P f args H res H' ks) (ha : ∀ (w : World) (A : Nat -> Prop) (β : List (Option Nat)) (vs : List Value),Reps w A β args' vs -> Reps w A β args vs) : HS P f args' H res H' ks :=
  ⟨h.1,fun w A β vs hfin hW hr=>h.2 w A β vs hfin hW (ha w A β vs hr)⟩
theorem reps_ptr {w : World} {A : Nat -> Prop} {β : List (Option Nat)} {k a b : Nat} {args : List SV} {vs : List Value} (h : Reps w A β (.ptr k a 0 0::args) vs) : Reps w A β (.ptr k b 0 0::args) vs:=by
  refine ⟨h.1,fun i f v h1 h2=>?_⟩
  match i with
  | 0 =>
    cases h1
    have:=h.2 0 _ v rfl h2
    cases this with
    | ptr _ _ _ _ _ c hk =>
      have:=Rep.ptr (w:=w) (A:=A) (β:=β) k b 0 0 c hk
      rw [show 0 * a + 0 = 0 * b + 0 by omega]; exact this
  | i + 1=>exact h.2 (i + 1) f v h1 h2
end
section
open Go.RowKit
attribute [local irreducible] FS FO IT HS
theorem o_put1 : (opAt Tryz.f59 6).op = .makeInterface 148 (.tmp 11):=by kernel_rfl
theorem o_put2 : (opAt Tryz.f59 10).op = .makeInterface 150 (.tmp 15):=by kernel_rfl
theorem o_next : (opAt Tryz.f61 11).op = .makeInterface 148 (.tmp 13):=by kernel_rfl
def ptH (L : List Hd) (x : Hd) : List Hd:=if 0 < x.1.length then puH L x else L
noncomputable def ir_push_merger_put : IR :=
(.seq (.reg (⟨some 6,.mv (.t 1),none⟩::⟨some 7,.ln (.t 6),none⟩::⟨some 8,.bin .gtr (.t 7) (.c (.int .i64 0)),none⟩::[])) (.cond (.t 8) (.reg (⟨some 9,.mv (.t 0),none⟩::⟨some 10,.ck (.t 9),none⟩::⟨some 11,.fa 0 (.t 10),none⟩::⟨some 12,.oth (opAt Tryz.f59 6),none⟩::⟨some 13,.mv (.t 1),none⟩::⟨some 14,.mv (.t 2),none⟩::⟨some 15,.bld [.nils,.int .i64 0] [(0,1,(.t 13)),(1,1,(.t 14))],none⟩::⟨some 16,.oth (opAt Tryz.f59 10),none⟩::⟨some 17,.call (.c (.fn 86 [])) [(.t 12),(.t 16)],none⟩::[])) .skip))
theorem cd_push_merger_put : Code1 Tryz.prog 59 18 ir_push_merger_put []:=⟨Tryz.call59,_,_,Tryz.func59,rfl,by kernel_rfl,by kernel_rfl,by kernel_rfl,by kernel_rfl⟩
theorem hs_put (r : Int) (L : List Hd) (l : List (Int × Int)) (k : Int) (O : List (Int × Int)) (hL : ∀ x ∈ L,0 < x.1.length) (hl : L.length <= 100000000) : HS Tryz.prog 59 [.ptr 0 1 0 0,SM l,.int .i64 k] (HM r L O) (.tup []) (HM r (ptH L (l,k)) O) [1]:=by
  refine hs_of_cvcX (ι:=Nat × Option Addr × Nat × Nat) (X:=fun i=>XQ i.1 [(SM l,.slice i.2.1 i.2.2.1 i.2.2.2)]) (args':=fun i=>[.ptr 0 1 0 0,.raw (.slice i.2.1 i.2.2.1 i.2.2.2),.int .i64 k]) mixed cd_push_merger_put (fun i=>known_XQ (by exact Nat.succ_pos _) (by exact Nat.succ_pos _) (by simp)) (fun i=>by simp) (fun w A β vs hW hr=>?_) fun i=>?_
  . match vs,hr.1 with
    | [v0, v1, v2], _ =>
      have r0:=hr.2 0 _ v0 rfl rfl
      have r1:=hr.2 1 _ v1 rfl rfl
      have r2:=hr.2 2 _ v2 rfl rfl
      cases r0 with
      | ptr _ _ _ _ _ b hk =>
        obtain ⟨sa,sn,sc,rfl⟩ : ∃ a n c,v1 = .slice a n c:=by
          have r1' : Rep w A β (.slc 3 (sms l)) v1:=r1
          generalize sms l = xs at r1'
          cases r1' <;> exact ⟨_,_,_,rfl⟩
        refine ⟨(b,sa,sn,sc),⟨hk,fun c hc=>by obtain ⟨k,hk⟩:=mem_name hc; exact (hW.own k c hk).1,fun p hp=>?_⟩,rfl,fun i f v h1 h2=>?_⟩
        . rw [List.mem_singleton.1 hp]; exact r1.purely rfl _
        . match i with
          | 0=>exact hr.2 0 f v h1 h2
          | 1=>cases h1; cases h2; exact .raw _ _
          | 2=>exact hr.2 2 f v h1 h2
          | i + 3=>cases h1
  obtain ⟨b,sa,sn,sc⟩:=i
  obtain ⟨u,hu⟩ : ∃ u : Value,u = .slice sa sn sc:=⟨_,rfl⟩
  have hK : Known 3 3 [1] (XQ b [(SM l,u)]):=known_XQ (by omega) (by omega) (by simp)
  have hX0 : ∀ w A β,XQ b [(SM l,u)] w A β -> β[0]? = some (some b):=fun w A β h=>h.1
  have hX1 : ∀ w A β,XQ b [(SM l,u)] w A β -> Rep w A [] (SM l) u:=fun w A β h=>h.2.2 _ (List.mem_singleton.2 rfl)
  have c1 : 0 < l.length -> HX Tryz.prog 86 (XQ b [(SM l,u)]) [.raw (hpI b),.raw (.iface 150 (.agg #[u,.int .i64 k]))] (HM r L O) (.tup []) (HM r (puH L (l,k)) O) [1]:=fun h=>hx_Push hX0 hK L l k u hX1 hL h hl
  have hl0:=sms_len l
  subst hu
  repeat' (conv=>whnf); first |(refine sem_len rfl hX1 hK ?_) |(refine sem_ptr o_put1 Tryz.underlying148 rfl hX0 ?_) |(refine sem_pair o_put2 Tryz.underlying150 rfl ?_) |(refine Br.dec (fun h=>?_) (fun h=>?_)) <;> try (exfalso; omega) | refine And.intro rfl ?_ |(refine And.intro (by simp only [lens_all]; first | done | omega) ?_) |(refine And.intro (Nat.le_refl _) ?_) | fail
  . refine sem_call rfl rfl (c1 (by omega)) (by simp) (Nat.le_refl _) ?_
    repeat' (conv=>whnf); first | refine And.intro rfl ?_ | fail
    rw [show ptH L (l,k) = puH L (l,k) from if_pos (show 0 < l.length by omega)]
    exact ⟨⟨rfl,rfl,rfl,trivial⟩,rfl,rfl,trivial⟩
  . rw [show ptH L (l,k) = L from if_neg (show ¬ 0 < l.length by omega)]
    exact ⟨⟨rfl,rfl,rfl,trivial⟩,rfl,rfl,trivial⟩
end
section
open Go.RowKit
attribute [local irreducible] FS FO IT HS
def accO (r : Int) (O : List (Int × Int)) (s : Int × Int) : List (Int × Int):=if 0 < O.length /\ (O.getD (O.length - 1) (0,0)).1 = s.1 then O.set (O.length - 1) (s.1,rAdd r (O.getD (O.length - 1) (0,0)).2 s.2) else O ++ [s]
def nxL (L : List Hd) : List Hd:=ptH (poH L) ((L.getD 0 ([],0)).1.drop 1,(L.getD 0 ([],0)).2)
theorem dn_all {p : Hd -> Prop} : ∀ (f : Nat) (M : List Hd) (n i : Nat),n <= M.length -> (∀ x ∈ M,p x) -> ∀ x ∈ dnH f M n i,p x
  | 0,_,_,_,_,h=>h
  | f + 1, M, n, i, hn, h => by
    rw [dnH]
    split
    . rename_i hc
      have hk:=kid_lt (L:=M) hc
      split
      . exact dn_all f _ n _ (by rw [swp_len]; exact hn) (swp_all h (by omega) (by omega))
      . exact h
    . exact h
theorem dn_len : ∀ (f : Nat) (M : List Hd) (n i : Nat),(dnH f M n i).length = M.length
  | 0,_,_,_=>rfl
  | f + 1, M, n, i => by
    rw [dnH]
    split
    . split
      . rw [dn_len f,swp_len]
      . rfl
    . rfl
theorem po_len (L : List Hd) : (poH L).length = L.length - 1:=by
  rw [poH,List.length_take,dn_len,swp_len]; omega
theorem po_all {p : Hd -> Prop} {L : List Hd} (h0 : 0 < L.length) (h : ∀ x ∈ L,p x) : ∀ x ∈ poH L,p x:=fun x hx =>
  dn_all L.length _ (L.length - 1) 0 (by rw [swp_len]; omega) (swp_all h h0 (by omega)) x (List.mem_of_mem_take hx)
theorem sms_ld {l : List (Int × Int)} {x : Int × Int} {q i : Nat} {K : List SV -> Prop} (hq : q = i) (hil : i < l.length) (hx : l.getD i (0,0) = x) (h : K [.int .i64 x.1,.int .i64 (hi x.2),.int .u64 (lo x.2)]) : ∃ y,(sms l)[q]? = some y /\ K y:=by
  subst hq hx
  exact ⟨[.int .i64 (l.getD q (0,0)).1,.int .i64 (hi (l.getD q (0,0)).2),.int .u64 (lo (l.getD q (0,0)).2)],by simp [sms,hil],h⟩
noncomputable def ir_push_merger_next : IR :=
(.seq (.reg (⟨some 5,.mv (.t 0),none⟩::⟨some 6,.ck (.t 5),none⟩::⟨some 7,.fa 0 (.t 6),none⟩::⟨some 8,.ld 1 false (.t 7),none⟩::⟨some 9,.ia 2 (.t 8) (.c (.int .i64 0)),none⟩::⟨some 10,.ld 2 true (.t 9),none⟩::⟨some 2,.al [.nils,.int .i64 0],none⟩::⟨none,.st 2 (.t 2) (.t 10),none⟩::[])) (.seq (.reg (⟨some 11,.mv (.t 0),none⟩::⟨some 12,.ck (.t 11),none⟩::⟨some 13,.fa 0 (.t 12),none⟩::⟨some 14,.oth (opAt Tryz.f61 11),none⟩::⟨some 15,.call (.c (.fn 87 [])) [(.t 14)],none⟩::[])) (.seq (.reg (⟨some 16,.fa 0 (.t 2),none⟩::⟨some 17,.ld 1 false (.t 16),none⟩::⟨some 18,.ia 3 (.t 17) (.c (.int .i64 0)),none⟩::⟨some 19,.ld 3 true (.t 18),none⟩::⟨some 3,.al [.int .i64 0,.int .i64 0,.int .u64 0],none⟩::⟨none,.st 3 (.t 3) (.t 19),none⟩::[])) (.seq (.draw (⟨some 20,.mv (.t 0),none⟩::⟨some 21,.fa 0 (.t 2),none⟩::⟨some 22,.ld 1 false (.t 21),none⟩::⟨some 23,.sl 3 (.t 22) (some (.c (.int .i64 1))) none none,none⟩::⟨some 24,.fa 1 (.t 2),none⟩::⟨some 25,.ld 1 false (.t 24),none⟩::[]) (⟨some 26,.call (.c (.fn 59 [])) [(.t 20),(.t 23),(.t 25)],none⟩::[])) (.seq (.seq (.reg (⟨some 27,.mv (.t 0),none⟩::⟨some 28,.ck (.t 27),none⟩::⟨some 29,.fa 2 (.t 28),none⟩::⟨some 30,.ld 1 false (.t 29),none⟩::⟨some 31,.ln (.t 30),none⟩::⟨some 4,.mv (.t 31),none⟩::[])) (.seq (.draw (⟨some 32,.mv (.t 4),none⟩::⟨some 33,.bin .gtr (.t 32) (.c (.int .i64 0)),none⟩::⟨some 34,.mv (.t 33),none⟩::⟨some 35,.mv (.t 0),some (34,true)⟩::⟨some 36,.ck (.t 35),some (34,true)⟩::⟨some 37,.fa 2 (.t 36),some (34,true)⟩::⟨some 38,.ld 1 false (.t 37),some (34,true)⟩::⟨some 39,.mv (.t 4),some (34,true)⟩::⟨some 40,.bin .sub (.t 39) (.c (.int .i64 1)),some (34,true)⟩::⟨some 41,.ia 3 (.t 38) (.t 40),some (34,true)⟩::⟨some 42,.fa 0 (.t 41),some (34,true)⟩::⟨some 43,.ld 1 false (.t 42),some (34,true)⟩::⟨some 44,.fa 0 (.t 3),some (34,true)⟩::⟨some 45,.ld 1 false (.t 44),some (34,true)⟩::[]) (⟨some 46,.bin .eql (.t 43) (.t 45),some (34,true)⟩::⟨some 47,.pick (.t 34) (.t 46) (.c (.bool false)),none⟩::[])) (.cond (.t 47) (.seq (.draw (⟨some 48,.mv (.t 0),none⟩::⟨some 49,.ck (.t 48),none⟩::⟨some 50,.fa 2 (.t 49),none⟩::⟨some 51,.ld 1 false (.t 50),none⟩::⟨some 52,.mv (.t 4),none⟩::⟨some 53,.bin .sub (.t 52) (.c (.int .i64 1)),none⟩::⟨some 54,.mv (.t 0),none⟩::⟨some 55,.ck (.t 54),none⟩::⟨some 56,.fa 1 (.t 55),none⟩::⟨some 57,.ld 1 false (.t 56),none⟩::⟨some 58,.mv (.t 0),none⟩::⟨some 59,.ck (.t 58),none⟩::⟨some 60,.fa 2 (.t 59),none⟩::⟨some 61,.ld 1 false (.t 60),none⟩::⟨some 62,.mv (.t 4),none⟩::⟨some 63,.bin .sub (.t 62) (.c (.int .i64 1)),none⟩::⟨some 64,.ia 3 (.t 61) (.t 63),none⟩::⟨some 65,.fa 1 (.t 64),none⟩::⟨some 66,.ld 2 true (.t 65),none⟩::⟨some 67,.fa 1 (.t 3),none⟩::⟨some 68,.ld 2 true (.t 67),none⟩::⟨some 69,.call (.c (.fn 88 [])) [(.t 57),(.t 66),(.t 68)],none⟩::[]) (⟨some 70,.ia 3 (.t 51) (.t 53),none⟩::⟨some 71,.fa 1 (.t 70),none⟩::⟨none,.st 2 (.t 71) (.t 69),none⟩::[])) .ret) .skip))) (.draw (⟨some 72,.mv (.t 0),none⟩::⟨some 73,.mv (.t 0),none⟩::⟨some 74,.ck (.t 73),none⟩::⟨some 75,.fa 2 (.t 74),none⟩::⟨some 76,.ld 1 false (.t 75),none⟩::⟨some 77,.ld 3 true (.t 3),none⟩::⟨some 78,.bsl 1 3 [.int .i64 0,.int .i64 0,.int .u64 0] [(0,(.t 77))],none⟩::[]) (⟨some 79,.ap 3 24 (.t 76) (.t 78),none⟩::⟨some 80,.ck (.t 72),none⟩::⟨some 81,.fa 2 (.t 80),none⟩::⟨none,.st 1 (.t 81) (.t 79),none⟩::[])))))))
theorem cd_push_merger_next : Code1 Tryz.prog 61 82 ir_push_merger_next []:=⟨Tryz.call61,_,_,Tryz.func61,rfl,by kernel_rfl,by kernel_rfl,by kernel_rfl,by kernel_rfl⟩
set_option maxHeartbeats 1000000 in
theorem hs_mnext (r : Int) (L : List Hd) (O : List (Int × Int)) (hL : ∀ x ∈ L,0 < x.1.length) (h0 : 0 < L.length) (hw : ∀ x ∈ L,∀ y ∈ x.1,W128 y.2) (hO : ∀ y ∈ O,W128 y.2) (hl : L.length <= 10000000) (hol : O.length <= 1000000000) : HS Tryz.prog 61 [.ptr 0 1 0 0] (HM r L O) (.tup []) (HM r (nxL L) (accO r O ((L.getD 0 ([],0)).1.getD 0 (0,0)))) [1,2]:=by
  refine hs_of_cvcX (ι:=Nat) (X:=fun b=>XQ b []) (args':=fun _=>[.ptr 0 1 0 0]) mixed cd_push_merger_next (fun i=>known_XQ (by exact Nat.succ_pos _) (by exact Nat.succ_pos _) (by simp)) (fun i=>by simp) (fun w A β vs hW hr=>?_) fun b=>?_
  . match vs,hr.1 with
    | [v0], _ =>
      have r0:=hr.2 0 _ v0 rfl rfl
      cases r0 with
      | ptr _ _ _ _ _ b hk=>exact ⟨b,⟨hk,fun c hc=>by obtain ⟨k,hk⟩:=mem_name hc; exact (hW.own k c hk).1,fun p hp=>by simp at hp⟩,hr⟩
  have hK : Known 3 3 [] (XQ b []):=known_XQ (by omega) (by omega) (by simp)
  have hX0 : ∀ w A β,XQ b [] w A β -> β[0]? = some (some b):=fun w A β h=>h.1
  obtain ⟨x0,hx0⟩ : ∃ x0,L.getD 0 ([],0) = x0:=⟨_,rfl⟩
  have hm0 : 0 < x0.1.length:=by rw [<- hx0]; exact hL _ (at_mem h0)
  have hsl:=sms_len x0.1
  have c1 : HX Tryz.prog 87 (XQ b []) [.raw (hpI b)] (HM r L O ++ [.vars [SM x0.1,.int .i64 x0.2]]) .any (HM r (poH L) O ++ [.vars [SM x0.1,.int .i64 x0.2]]) []:=(hx_Pop hX0 hK L hL h0 (by omega)).frame _ rfl rfl rfl rfl (Nat.le_refl _) hK
  obtain ⟨y0,hy0⟩ : ∃ y0,x0.1.getD 0 (0,0) = y0:=⟨_,rfl⟩
  have es : SV.slc 3 (List.drop (Int.toNat 1) (List.take ((sms x0.1).length : Int).toNat (sms x0.1))) = SM (x0.1.drop 1):=by
    rw [Int.toNat_natCast,List.take_length]
    simp [SM,sms]
  have c2 : HS Tryz.prog 59 [.ptr 0 1 0 0,.slc 3 (List.drop (Int.toNat 1) (List.take ((sms x0.1).length : Int).toNat (sms x0.1))),.int .i64 x0.2] (HM r (poH L) O ++ [.vars [SM x0.1,.int .i64 x0.2],.vars [.int .i64 y0.1,.int .i64 (hi y0.2),.int .u64 (lo y0.2)]]) (.tup []) (HM r (nxL L) O ++ [.vars [SM x0.1,.int .i64 x0.2],.vars [.int .i64 y0.1,.int .i64 (hi y0.2),.int .u64 (lo y0.2)]]) [1]:=by
    rw [es,nxL,hx0]
    exact hs_behind _ (hs_put r (poH L) (x0.1.drop 1) x0.2 O (po_all h0 hL) (by rw [po_len]; omega)) rfl rfl rfl rfl
  obtain ⟨z0,hz0⟩ : ∃ z0,O.getD (O.length - 1) (0,0) = z0:=⟨_,rfl⟩
  have hz : 0 < O.length -> W128 z0.2:=fun h=>by
    rw [<- hz0]
    exact hO _ (by rw [List.getD_eq_getElem?_getD,List.getElem?_eq_getElem (by omega)]; exact List.getElem_mem _)
  have hy : W128 y0.2:=by
    rw [<- hy0]
    exact hw x0 (by rw [<- hx0]; exact at_mem h0) _ (by simp [hm0])
  repeat' (conv=>whnf); first |(refine sms_ld (i:=O.length - 1) (by omega) (by omega) hz0 ?_) |(refine Or.inl ⟨by rfl,_,fs_rAdd r z0.2 y0.2 (hz (by omega)) hy,?_⟩) |(refine sms_go (i:=0) rfl hy0 ?_) |(refine Or.inr (Or.inr (Or.inr (Or.inl ⟨_,_,[1],c2,by simp,?_⟩)))) |(refine hds_ld (i:=0) (by omega) h0 hx0 ?_) |(refine sem_ptr o_next Tryz.underlying148 rfl hX0 ?_) |(refine sem_call rfl rfl c1 (by simp) (by exact Nat.le_succ _) ?_) | refine Br.tt ?_ | refine Br.ff ?_ |(refine Br.dec (fun h=>?_) (fun h=>?_)) <;> try (exfalso; omega) | refine And.intro rfl ?_ |(refine And.intro (by omega) ?_) |(refine ⟨_,Or.inl ⟨⟨by omega,by omega⟩,rfl⟩,?_⟩) |(refine And.intro (by simp only [lens_all,sms_len]; first | done | omega) ?_) | fail
  . have h' : z0.1 = y0.1:=h
    have ea : accO r O y0 = O.set (O.length - 1) (y0.1,rAdd r z0.2 y0.2):=by rw [accO,if_pos ⟨by omega,by rw [hz0]; exact h'⟩,hz0]
    rw [hx0,hy0,ea]
    refine ⟨⟨rfl,rfl,?_,trivial⟩,rfl,?_,Nat.le_refl _,rfl,rfl⟩
    . show SV.osl 2 3 0 O.length = SV.osl 2 3 0 _
      rw [List.length_set]
    . show Blk.arr 3 ((sms O).set (0 + ((O.length : Int) - 1).toNat) [.int .i64 z0.1,.int .i64 (hi (rAdd r z0.2 y0.2)),.int .u64 (lo (rAdd r z0.2 y0.2))]) = _
      rw [show 0 + ((O.length : Int) - 1).toNat = O.length - 1 by omega,h']
      simp [sms,List.map_set]
  all_goals
    have ea : accO r O y0 = O ++ [y0]:=by
      rw [accO,if_neg]
      rintro ⟨h1,h2⟩
      rw [hz0] at h2
      first | (exact absurd h2 h) | omega
    rw [hx0,hy0,ea]
    refine ⟨Or.inr (by simp),(show (O.length + 1) * 24 <= _ by omega),(show O.length + 1 <= _ by omega),fun y hy=>?_,?_⟩
    . obtain rfl : y = [.int .i64 y0.1,.int .i64 (hi y0.2),.int .u64 (lo y0.2)]:=List.mem_singleton.1 hy
      rfl
    repeat' (conv=>whnf); first | refine And.intro rfl ?_ |(refine And.intro (by simp only [lens_all]; first | done | omega) ?_) | fail
    refine ⟨⟨rfl,rfl,?_,trivial⟩,rfl,?_,Nat.le_refl _,rfl,rfl⟩
    . show SV.osl 2 3 0 (O.length + 1) = SV.osl 2 3 0 (O ++ [y0]).length
      simp
    . show Blk.arr 3 (sms O ++ [[.int .i64 y0.1,.int .i64 (hi y0.2),.int .u64 (lo y0.2)]]) = _
      rw [sms_append]; rfl
end
end Go.Proofs.YtelbhbadkbcakaaGreat
