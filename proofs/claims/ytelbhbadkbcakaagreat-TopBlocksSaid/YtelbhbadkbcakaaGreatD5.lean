/- Numbers cut into parts: where parts begin. Numbers cut into parts: where parts begin, in plain words. Numbers cut into parts: where parts begin, how many they have, in which one a number is: the program's and the document's functions. -/
import Derived.Test.YtelbhbadkbcakaaGreatW1
import Derived.Test.YtelbhbadkbcakaaGreatS5
namespace Go.Proofs.YtelbhbadkbcakaaGreat
section
open Go.RowKit
attribute [local irreducible] FS FO IT HS
def mayB (n k : Int) : Bool:=decide (0 <= n) && decide (n <= 4096) && (decide (0 < k) && decide (k <= 8))
def sideB (k : Int) : Bool:=decide (0 < k) && decide (k <= 8)
theorem mayB_iff {n k : Int} : mayB n k = true ↔ 0 <= n /\ n <= 4096 /\ 0 < k /\ k <= 8:=by
  simp [mayB,and_assoc]
def lowI (n k i : Int) : Int:=if mayB n k = true then min (max i 0) k * n / k else 0
def sizeI (n k i : Int) : Int:=if 0 <= i /\ i < k then lowI n k (i + 1) - lowI n k i else 0
theorem pmul_bd {x n : Int} (h0 : 0 <= x) (h1 : x <= 8) (h2 : 0 <= n) (h3 : n <= 4096) : 0 <= x * n /\ x * n <= 32768:=by
  refine ⟨Int.mul_nonneg h0 h2,?_⟩
  have:=Int.mul_le_mul h1 h3 h2 (by omega : (0 : Int) <= 8)
  omega
def ir_part_side : IR :=
(.seq (.reg (⟨some 2,.mv (.c (.bool false)),none⟩::[])) (.seq (.reg (⟨some 3,.mv (.t 0),none⟩::⟨some 4,.bin .gtr (.t 3) (.c (.int .i64 0)),none⟩::⟨some 5,.mv (.t 4),none⟩::⟨some 6,.mv (.t 0),some (5,true)⟩::⟨some 7,.bin .leq (.t 6) (.c (.int .i64 8)),some (5,true)⟩::⟨some 8,.pick (.t 5) (.t 7) (.c (.bool false)),none⟩::⟨some 2,.mv (.t 8),none⟩::[])) .ret))
theorem cd_part_side : Code1 Tryz.prog 104 9 ir_part_side [.t 2]:=⟨Tryz.call104,_,_,Tryz.func104,rfl,by kernel_rfl,by kernel_rfl,by kernel_rfl,by kernel_rfl⟩
theorem fs_side (k : Int) : FS Tryz.prog 104 [.int .i64 k] (.bool (sideB k)):=by
  refine fs_of_cvc mixed cd_part_side (by simp) ?_
  unfold sideB
  repeat' (conv=>whnf); first | refine Br.tt ?_ | refine Br.ff ?_ |(refine Br.dec (fun h=>?_) (fun h=>?_)) <;> try (exfalso; omega) | refine And.intro rfl ?_ | fail
  all_goals (show SV.bool _ = SV.bool _; simp [*])
def ir_part_may : IR :=
(.seq (.reg (⟨some 4,.mv (.c (.bool false)),none⟩::[])) (.seq (.reg (⟨some 5,.mv (.t 0),none⟩::⟨some 6,.bin .geq (.t 5) (.c (.int .i64 0)),none⟩::⟨some 7,.mv (.t 6),none⟩::⟨some 8,.mv (.t 0),some (7,true)⟩::⟨some 9,.bin .leq (.t 8) (.c (.int .i64 4096)),some (7,true)⟩::⟨some 10,.pick (.t 7) (.t 9) (.c (.bool false)),none⟩::⟨some 11,.mv (.t 10),none⟩::⟨some 12,.mv (.t 1),some (11,true)⟩::⟨some 13,.call (.c (.fn 104 [])) [(.t 12)],some (11,true)⟩::⟨some 14,.pick (.t 11) (.t 13) (.c (.bool false)),none⟩::⟨some 4,.mv (.t 14),none⟩::[])) .ret))
theorem cd_part_may : Code1 Tryz.prog 72 15 ir_part_may [.t 4]:=⟨Tryz.call72,_,_,Tryz.func72,rfl,by kernel_rfl,by kernel_rfl,by kernel_rfl,by kernel_rfl⟩
theorem fs_may (n k : Int) : FS Tryz.prog 72 [.int .i64 n,.int .i64 k] (.bool (mayB n k)):=by
  refine fs_of_cvc mixed cd_part_may (by simp) ?_
  have c:=fs_side k
  have e : mayB n k = (decide (0 <= n) && decide (n <= 4096) && sideB k):=rfl
  rw [e]
  generalize sideB k = b at *
  repeat' (conv=>whnf); first |(refine Or.inl ⟨by rfl,_,c,?_⟩) | refine Br.tt ?_ | refine Br.ff ?_ |(refine Br.dec (fun h=>?_) (fun h=>?_)) <;> try (exfalso; omega) | refine And.intro rfl ?_ | fail
  all_goals (show SV.bool _ = SV.bool _; simp [*])
def ir_part_Low : IR :=
(.seq (.reg (⟨some 6,.mv (.c (.int .i64 0)),none⟩::[])) (.seq (.seq (.reg (⟨some 7,.mv (.t 0),none⟩::⟨some 8,.mv (.t 1),none⟩::⟨some 9,.call (.c (.fn 72 [])) [(.t 7),(.t 8)],none⟩::⟨some 10,.un .not (.t 9),none⟩::[])) (.cond (.t 10) (.seq (.reg (⟨some 6,.mv (.c (.int .i64 0)),none⟩::[])) .ret) .skip)) (.seq (.reg (⟨some 11,.mv (.t 2),none⟩::⟨some 12,.mm true [(.t 11),(.c (.int .i64 0))],none⟩::⟨some 13,.mv (.t 1),none⟩::⟨some 14,.mm false [(.t 12),(.t 13)],none⟩::⟨some 15,.mv (.t 0),none⟩::⟨some 16,.bin .mul (.t 14) (.t 15),none⟩::⟨some 17,.mv (.t 1),none⟩::⟨some 18,.bin .quo (.t 16) (.t 17),none⟩::⟨some 6,.mv (.t 18),none⟩::[])) .ret)))
theorem cd_part_Low : Code1 Tryz.prog 38 19 ir_part_Low [.t 6]:=⟨Tryz.call38,_,_,Tryz.func38,rfl,by kernel_rfl,by kernel_rfl,by kernel_rfl,by kernel_rfl⟩
theorem fs_Low (n k i : Int) : FS Tryz.prog 38 [.int .i64 n,.int .i64 k,.int .i64 i] (.int .i64 (lowI n k i)):=by
  refine fs_of_cvc mixed cd_part_Low (by simp) ?_
  have c:=fs_may n k
  unfold lowI
  cases hb : mayB n k with
  | true =>
    rw [hb] at c
    obtain ⟨h0,h1,h2,h3⟩:=mayB_iff.1 hb
    have hm:=pmul_bd (x:=min (max i 0) k) (n:=n) (by omega) (by omega) h0 h1
    repeat' (conv=>whnf); first |(refine Or.inl ⟨by rfl,_,c,?_⟩) |(refine And.intro (show (_ : Int) ≠ 0 by omega) ?_) |(refine ar_tdiv (by omega) (by omega) (by omega) ?_) | refine Br.ff ?_ | refine And.intro rfl ?_ |(refine ⟨_,Or.inl ⟨⟨by omega,by omega⟩,rfl⟩,?_⟩) | fail
    all_goals exact rfl
  | false =>
    rw [hb] at c
    repeat' (conv=>whnf); first |(refine Or.inl ⟨by rfl,_,c,?_⟩) | refine Br.tt ?_ | fail
    all_goals exact rfl
end
section
open Go.RowKit
attribute [local irreducible] FS FO IT HS
section
variable {n k : Int} (hm : mayB n k = true)
include hm
theorem low_neg {i : Int} (h : i < 0) : lowI n k i = 0:=by
  obtain ⟨h0,h1,h2,h3⟩:=mayB_iff.1 hm
  unfold lowI
  rw [if_pos hm,show min (max i 0) k = 0 by omega,Int.zero_mul,Int.zero_ediv]
theorem low_big {i : Int} (h : k <= i) : lowI n k i = n:=by
  obtain ⟨h0,h1,h2,h3⟩:=mayB_iff.1 hm
  unfold lowI
  rw [if_pos hm,show min (max i 0) k = k by omega,Int.mul_ediv_cancel_left _ (by omega)]
theorem low_mid {i : Int} (h : 0 <= i) (h' : i <= k) : lowI n k i = i * n / k:=by
  obtain ⟨h0,h1,h2,h3⟩:=mayB_iff.1 hm
  unfold lowI
  rw [if_pos hm,show min (max i 0) k = i by omega]
theorem low_zero : lowI n k 0 = 0:=by
  rw [low_mid hm (Int.le_refl _) (by have:=mayB_iff.1 hm; omega),Int.zero_mul,Int.zero_ediv]
theorem low_mono {i j : Int} (h : i <= j) : lowI n k i <= lowI n k j:=by
  obtain ⟨h0,h1,h2,h3⟩:=mayB_iff.1 hm
  unfold lowI
  rw [if_pos hm,if_pos hm]
  exact Int.ediv_le_ediv h2 (Int.mul_le_mul_of_nonneg_right (by omega) h0)
end
theorem low_bd (n k i : Int) : 0 <= lowI n k i /\ lowI n k i <= 4096:=by
  cases hm : mayB n k with
  | false=>unfold lowI; rw [hm]; exact ⟨by simp,by simp⟩
  | true =>
    obtain ⟨h0,h1,h2,h3⟩:=mayB_iff.1 hm
    have a : lowI n k (-1) <= lowI n k (max i (-1)):=low_mono hm (by omega)
    have b : lowI n k (min i k) <= lowI n k k:=low_mono hm (by omega)
    rw [low_neg hm (by omega)] at a
    rw [low_big hm (Int.le_refl _)] at b
    rcases Int.lt_or_le i 0 with h | h
    . rw [low_neg hm h]; omega
    . rcases Int.lt_or_le i k with h' | h'
      . rw [show max i (-1) = i by omega] at a
        rw [show min i k = i by omega] at b
        omega
      . rw [low_big hm h']; omega
end
section
open Go.RowKit
attribute [local irreducible] FS FO IT HS
def ir_part_Size : IR :=
(.seq (.reg (⟨some 6,.mv (.c (.int .i64 0)),none⟩::[])) (.seq (.seq (.reg (⟨some 7,.mv (.t 2),none⟩::⟨some 8,.bin .lss (.t 7) (.c (.int .i64 0)),none⟩::⟨some 9,.mv (.t 8),none⟩::⟨some 10,.mv (.t 2),some (9,false)⟩::⟨some 11,.mv (.t 1),some (9,false)⟩::⟨some 12,.bin .geq (.t 10) (.t 11),some (9,false)⟩::⟨some 13,.pick (.t 9) (.c (.bool true)) (.t 12),none⟩::[])) (.cond (.t 13) (.seq (.reg (⟨some 6,.mv (.c (.int .i64 0)),none⟩::[])) .ret) .skip)) (.seq (.reg (⟨some 14,.mv (.t 0),none⟩::⟨some 15,.mv (.t 1),none⟩::⟨some 16,.mv (.t 2),none⟩::⟨some 17,.bin .add (.t 16) (.c (.int .i64 1)),none⟩::⟨some 18,.call (.c (.fn 38 [])) [(.t 14),(.t 15),(.t 17)],none⟩::⟨some 19,.mv (.t 0),none⟩::⟨some 20,.mv (.t 1),none⟩::⟨some 21,.mv (.t 2),none⟩::⟨some 22,.call (.c (.fn 38 [])) [(.t 19),(.t 20),(.t 21)],none⟩::⟨some 23,.bin .sub (.t 18) (.t 22),none⟩::⟨some 6,.mv (.t 23),none⟩::[])) .ret)))
theorem cd_part_Size : Code1 Tryz.prog 12 24 ir_part_Size [.t 6]:=⟨Tryz.call12,_,_,Tryz.func12,rfl,by kernel_rfl,by kernel_rfl,by kernel_rfl,by kernel_rfl⟩
theorem fs_Size (n k i : Int) (hk : I64 k) : FS Tryz.prog 12 [.int .i64 n,.int .i64 k,.int .i64 i] (.int .i64 (sizeI n k i)):=by
  refine fs_of_cvc mixed cd_part_Size (by simp) ?_
  have c1:=fs_Low n k i
  have c2:=fs_Low n k (i + 1)
  have b1:=low_bd n k i
  have b2:=low_bd n k (i + 1)
  have hk:=hk.2
  unfold sizeI
  generalize lowI n k (i + 1) = L2 at *
  generalize lowI n k i = L1 at *
  by_cases h : 0 <= i /\ i < k
  . rw [if_pos h]
    obtain ⟨h1,h2⟩:=h
    repeat' (conv=>whnf); first |(refine Or.inl ⟨by rfl,_,c1,?_⟩) |(refine Or.inl ⟨by rfl,_,c2,?_⟩) | refine Br.ff ?_ |(refine Br.dec (fun h=>?_) (fun h=>?_)) <;> try (exfalso; omega) | refine And.intro rfl ?_ |(refine ⟨_,Or.inl ⟨⟨by omega,by omega⟩,rfl⟩,?_⟩) | fail
    all_goals exact rfl
  . rw [if_neg h]
    repeat' (conv=>whnf); first | refine Br.tt ?_ | refine Br.ff ?_ |(refine Br.dec (fun h=>?_) (fun h=>?_)) <;> try (exfalso; omega) | refine And.intro rfl ?_ | fail
    all_goals exact rfl
end
end Go.Proofs.YtelbhbadkbcakaaGreat
