/- The laws on vectors folded: the program answers as the document. Vectors folded: what is less, alike and more; the least item. -/
import Derived.Test.YtckbagpdahhiiaaV16
namespace Go.Proofs.Ytckbagpdahhiiaa
section
open Go.RowKit
attribute [local irreducible] FS FO IT HS

def ir_fretworklaw12_live : IR :=
(.seq (.reg (⟨(some 0), .mv (.c (.bool false)), none⟩ :: [])) (.seq (.reg (⟨(some 14), .bld [.int .i64 0, .int .i64 0] [(0, 1, (.c (.int .i64 1))), (1, 1, (.c (.int .i64 4)))], none⟩ ::⟨(some 15), .bld [.int .i64 0, .int .i64 0] [(0, 1, (.c (.int .i64 3))), (1, 1, (.c (.int .i64 3)))], none⟩ ::⟨(some 16), .bsl 2 2 [.int .i64 0, .int .i64 0] [(0, (.t 14)), (1, (.t 15))], none⟩ ::⟨(some 17), .bld [.int .i64 0, .nils] [(0, 1, (.c (.int .i64 4))), (1, 1, (.t 16))], none⟩ ::⟨(some 1), .al [.int .i64 0, .nils], none⟩ ::⟨none, .st 2 (.t 1) (.t 17), none⟩ :: [])) (.seq (.reg (⟨(some 19), .ld 2 true (.t 1), none⟩ ::⟨(some 20), .call (.c (.fn 33 [])) [(.c (.int .i64 5)), (.t 19)], none⟩ ::⟨(some 18), .mv (.t 20), none⟩ ::⟨(some 21), .ex 0 (.t 18), none⟩ ::⟨(some 22), .ex 1 (.t 18), none⟩ ::⟨(some 2), .mv (.t 21), none⟩ ::⟨(some 3), .mv (.t 22), none⟩ :: [])) (.seq (.reg (⟨(some 24), .ld 2 true (.t 1), none⟩ ::⟨(some 25), .call (.c (.fn 33 [])) [(.c (.int .i64 0)), (.t 24)], none⟩ ::⟨(some 23), .mv (.t 25), none⟩ ::⟨(some 26), .ex 0 (.t 23), none⟩ ::⟨(some 27), .ex 1 (.t 23), none⟩ ::⟨(some 4), .mv (.t 26), none⟩ ::⟨(some 5), .mv (.t 27), none⟩ :: [])) (.seq (.reg (⟨(some 29), .ld 2 true (.t 1), none⟩ ::⟨(some 30), .bsl 3 1 [.int .i64 0] [(0, (.c (.int .i64 3))), (1, (.c (.int .i64 0))), (2, (.c (.int .i64 3)))], none⟩ ::⟨(some 31), .call (.c (.fn 42 [])) [(.t 29), (.t 30)], none⟩ ::⟨(some 28), .mv (.t 31), none⟩ ::⟨(some 32), .ex 0 (.t 28), none⟩ ::⟨(some 33), .ex 1 (.t 28), none⟩ ::⟨(some 6), .al [.int .i64 0, .nils], none⟩ ::⟨none, .st 2 (.t 6) (.t 32), none⟩ ::⟨(some 7), .mv (.t 33), none⟩ :: [])) (.seq (.reg (⟨(some 35), .ld 2 true (.t 1), none⟩ ::⟨(some 36), .bsl 2 1 [.int .i64 0] [(0, (.c (.int .i64 0))), (1, (.c (.int .i64 1)))], none⟩ ::⟨(some 37), .bld [.int .i64 0, .int .i64 0] [(0, 1, (.c (.int .i64 0))), (1, 1, (.c (.int .i64 9)))], none⟩ ::⟨(some 38), .bsl 1 2 [.int .i64 0, .int .i64 0] [(0, (.t 37))], none⟩ ::⟨(some 39), .bld [.int .i64 0, .nils] [(0, 1, (.c (.int .i64 2))), (1, 1, (.t 38))], none⟩ ::⟨(some 40), .call (.c (.fn 44 [])) [(.t 35), (.t 36), (.t 39)], none⟩ ::⟨(some 34), .mv (.t 40), none⟩ ::⟨(some 41), .ex 0 (.t 34), none⟩ ::⟨(some 42), .ex 1 (.t 34), none⟩ ::⟨(some 8), .al [.int .i64 0, .nils], none⟩ ::⟨none, .st 2 (.t 8) (.t 41), none⟩ ::⟨(some 9), .mv (.t 42), none⟩ :: [])) (.seq (.reg (⟨(some 44), .ld 2 true (.t 1), none⟩ ::⟨(some 45), .call (.c (.fn 35 [])) [(.t 44)], none⟩ ::⟨(some 43), .mv (.t 45), none⟩ ::⟨(some 46), .ex 0 (.t 43), none⟩ ::⟨(some 47), .ex 1 (.t 43), none⟩ ::⟨(some 10), .al [.int .i64 0, .int .i64 0], none⟩ ::⟨none, .st 2 (.t 10) (.t 46), none⟩ ::⟨(some 11), .mv (.t 47), none⟩ :: [])) (.seq (.reg (⟨(some 49), .ld 2 true (.t 1), none⟩ ::⟨(some 50), .bsl 1 1 [.int .i64 0] [(0, (.c (.int .i64 4)))], none⟩ ::⟨(some 51), .call (.c (.fn 42 [])) [(.t 49), (.t 50)], none⟩ ::⟨(some 48), .mv (.t 51), none⟩ ::⟨(some 52), .ex 0 (.t 48), none⟩ ::⟨(some 53), .ex 1 (.t 48), none⟩ ::⟨(some 12), .al [.int .i64 0, .nils], none⟩ ::⟨none, .st 2 (.t 12) (.t 52), none⟩ ::⟨(some 13), .mv (.t 53), none⟩ :: [])) (.seq (.reg (⟨(some 54), .mv (.t 2), none⟩ ::⟨(some 55), .bin .eql (.t 54) (.c (.int .i64 7)), none⟩ ::⟨(some 56), .mv (.t 55), none⟩ ::⟨(some 57), .mv (.t 3), some (56, true)⟩ ::⟨(some 58), .bin .eql (.t 57) (.c (.int .i64 0)), some (56, true)⟩ ::⟨(some 59), .pick (.t 56) (.t 58) (.c (.bool false)), none⟩ ::⟨(some 60), .mv (.t 59), none⟩ ::⟨(some 61), .mv (.t 5), some (60, true)⟩ ::⟨(some 62), .bin .eql (.t 61) (.c (.int .i64 8)), some (60, true)⟩ ::⟨(some 63), .pick (.t 60) (.t 62) (.c (.bool false)), none⟩ ::⟨(some 64), .mv (.t 63), none⟩ ::⟨(some 65), .mv (.t 7), some (64, true)⟩ ::⟨(some 66), .bin .eql (.t 65) (.c (.int .i64 0)), some (64, true)⟩ ::⟨(some 67), .pick (.t 64) (.t 66) (.c (.bool false)), none⟩ ::⟨(some 68), .mv (.t 67), none⟩ ::⟨(some 69), .fa 1 (.t 6), some (68, true)⟩ ::⟨(some 70), .ld 1 false (.t 69), some (68, true)⟩ ::⟨(some 71), .ln (.t 70), some (68, true)⟩ ::⟨(some 72), .bin .eql (.t 71) (.c (.int .i64 2)), some (68, true)⟩ ::⟨(some 73), .pick (.t 68) (.t 72) (.c (.bool false)), none⟩ ::⟨(some 74), .mv (.t 73), none⟩ ::⟨(some 75), .fa 0 (.t 6), some (74, true)⟩ ::⟨(some 76), .ld 1 false (.t 75), some (74, true)⟩ ::⟨(some 77), .bin .eql (.t 76) (.c (.int .i64 3)), some (74, true)⟩ ::⟨(some 78), .pick (.t 74) (.t 77) (.c (.bool false)), none⟩ ::⟨(some 79), .mv (.t 78), none⟩ ::⟨(some 80), .mv (.t 9), some (79, true)⟩ ::⟨(some 81), .bin .eql (.t 80) (.c (.int .i64 0)), some (79, true)⟩ ::⟨(some 82), .pick (.t 79) (.t 81) (.c (.bool false)), none⟩ ::⟨(some 83), .mv (.t 82), none⟩ ::⟨(some 84), .fa 1 (.t 8), some (83, true)⟩ ::⟨(some 85), .ld 1 false (.t 84), some (83, true)⟩ ::⟨(some 86), .ln (.t 85), some (83, true)⟩ ::⟨(some 87), .bin .eql (.t 86) (.c (.int .i64 2)), some (83, true)⟩ ::⟨(some 88), .pick (.t 83) (.t 87) (.c (.bool false)), none⟩ ::⟨(some 89), .mv (.t 88), none⟩ ::⟨(some 90), .fa 1 (.t 8), some (89, true)⟩ ::⟨(some 91), .ld 1 false (.t 90), some (89, true)⟩ ::⟨(some 92), .ia 2 (.t 91) (.c (.int .i64 0)), some (89, true)⟩ ::⟨(some 93), .fa 1 (.t 92), some (89, true)⟩ ::⟨(some 94), .ld 1 false (.t 93), some (89, true)⟩ ::⟨(some 95), .bin .eql (.t 94) (.c (.int .i64 9)), some (89, true)⟩ ::⟨(some 96), .pick (.t 89) (.t 95) (.c (.bool false)), none⟩ ::⟨(some 97), .mv (.t 96), none⟩ ::⟨(some 98), .fa 0 (.t 10), some (97, true)⟩ ::⟨(some 99), .ld 1 false (.t 98), some (97, true)⟩ ::⟨(some 100), .bin .eql (.t 99) (.c (.int .i64 3)), some (97, true)⟩ ::⟨(some 101), .pick (.t 97) (.t 100) (.c (.bool false)), none⟩ ::⟨(some 102), .mv (.t 101), none⟩ ::⟨(some 103), .mv (.t 11), some (102, true)⟩ ::⟨(some 104), .pick (.t 102) (.t 103) (.c (.bool false)), none⟩ ::⟨(some 105), .mv (.t 104), none⟩ ::⟨(some 106), .mv (.t 13), some (105, true)⟩ ::⟨(some 107), .bin .eql (.t 106) (.c (.int .i64 3)), some (105, true)⟩ ::⟨(some 108), .pick (.t 105) (.t 107) (.c (.bool false)), none⟩ ::⟨(some 109), .mv (.t 108), none⟩ ::⟨(some 110), .ld 2 true (.t 1), some (109, true)⟩ ::⟨(some 111), .call (.c (.fn 40 [])) [(.t 110), (.c (.int .i64 1)), (.c (.int .i64 4))], some (109, true)⟩ ::⟨(some 112), .fd 1 1 false (.t 111), some (109, true)⟩ ::⟨(some 113), .ln (.t 112), some (109, true)⟩ ::⟨(some 114), .bin .eql (.t 113) (.c (.int .i64 1)), some (109, true)⟩ ::⟨(some 115), .pick (.t 109) (.t 114) (.c (.bool false)), none⟩ ::⟨(some 116), .mv (.t 115), none⟩ ::⟨(some 117), .call (.c (.fn 38 [])) [(.c (.int .i64 4)), (.c (.int .i64 1)), (.c (.int .i64 2))], some (116, true)⟩ ::⟨(some 118), .pick (.t 116) (.t 117) (.c (.bool false)), none⟩ ::⟨(some 0), .mv (.t 118), none⟩ :: [])) .ret)))))))))
theorem cd_fretworklaw12_live : Code1 Try.prog 37 119 ir_fretworklaw12_live [.t 0] := ⟨Try.call37, _, _, Try.func37, rfl, by kernel_rfl, by kernel_rfl, by kernel_rfl, by kernel_rfl⟩

set_option maxHeartbeats 4000000 in
theorem fs_live12 : FS Try.prog 37 [] (.bool true) := by
  have ib : Ib [(1, 4), (3, 3)] := IbL _ (by decide)
  have c1 := fs_Reduce 5 4 [(1, 4), (3, 3)] (by simp) ib
  rw [show redR 5 4 [(1, 4), (3, 3)] = (7, 0) by kernel_rfl] at c1
  have c2 := fs_Reduce 0 4 [(1, 4), (3, 3)] (by simp) ib
  rw [show redR 0 4 [(1, 4), (3, 3)] = (0, 8) by kernel_rfl] at c2
  have c3 := fs_Select 4 [(1, 4), (3, 3)] [3, 0, 3] (by simp)
  rw [show selR 4 [(1, 4), (3, 3)] [3, 0, 3] = (3, [(0, 3), (2, 3)], 0) by kernel_rfl] at c3
  have c4 := fs_Assign 4 [(1, 4), (3, 3)] [0, 1] 2 [(0, 9)] (by simp) (by simp)
  rw [show asR 4 [(1, 4), (3, 3)] [0, 1] 2 [(0, 9)] = (4, [(0, 9), (3, 3)], 0) by kernel_rfl] at c4
  have c5 := fs_fLeast 4 [(1, 4), (3, 3)] (by simp)
  rw [show sl 4 [(1, 4), (3, 3)] = [(1, 4), (3, 3)] by kernel_rfl, show minI [(1, 4), (3, 3)] = (3, 3) by kernel_rfl] at c5
  have c6 := fs_Select 4 [(1, 4), (3, 3)] [4] (by simp)
  rw [show selR 4 [(1, 4), (3, 3)] [4] = (0, [], 3) by kernel_rfl] at c6
  have c7 := fs_Where 4 [(1, 4), (3, 3)] 1 4 (by simp)
  rw [show sl 4 [(1, 4), (3, 3)] = [(1, 4), (3, 3)] by kernel_rfl, show sn 4 [(1, 4), (3, 3)] = 4 by kernel_rfl, show ([(1, 4), (3, 3)] : List (Int × Int)).filter (fun x => hold 1 x.2 4) = [(3, 3)] by kernel_rfl] at c7
  have c8 := fs_Holds 4 1 2
  rw [show hold 4 1 2 = true by kernel_rfl] at c8
  refine fs_of_cvc mixed cd_fretworklaw12_live (by simp) ?_
  repeat' (conv => whnf); first
    | ((refine Or.inl ⟨by rfl, _, c1, ?_⟩))
    | ((refine Or.inl ⟨by rfl, _, c2, ?_⟩))
    | ((refine Or.inl ⟨by rfl, _, c3, ?_⟩))
    | ((refine Or.inl ⟨by rfl, _, c4, ?_⟩))
    | ((refine Or.inl ⟨by rfl, _, c5, ?_⟩))
    | ((refine Or.inl ⟨by rfl, _, c6, ?_⟩))
    | ((refine Or.inl ⟨by rfl, _, c7, ?_⟩))
    | ((refine Or.inl ⟨by rfl, _, c8, ?_⟩))
    | ((refine fun z hz => ?_); (obtain rfl := its_c0 hz; clear hz))
    | ((refine Br.beq (by rfl) ?_))
    | ((refine Br.bne (by rfl) ?_))
    | (refine Br.tt ?_)
    | (refine Br.ff ?_)
    | (refine Br.dec (fun h => ?_) (fun h => ?_)) <;> try (exfalso; omega)
    | (refine Br.neg ?_)
    | (refine Br.mk (fun h => ?_) (fun h => ?_))
    | (refine And.intro rfl ?_)
    | (refine And.intro (by omega) ?_)
    | (refine ⟨_, Or.inl ⟨⟨by omega, by omega⟩, rfl⟩, ?_⟩)
    | (refine And.intro (by simp only [lens_all, its_len]; first | done | omega) ?_)
    | (refine And.intro (Nat.le_refl _) ?_)
    | fail
  all_goals exact rfl

theorem its_hd {l : List (Int × Int)} {x : List SV} {q : Nat} (h : (its l)[q]? = some x) : ∃ a b, x = [.int .i64 a, .int .i64 b] := by
  obtain ⟨y, _, rfl⟩ := its_get h
  exact ⟨_, _, rfl⟩

def ir_fretworklaw12_FoldReduces : IR :=
(.seq (.reg (⟨(some 4), .bx (.t 1), none⟩ ::⟨(some 5), .bx (.t 2), none⟩ ::⟨(some 6), .mv (.c (.bool false)), none⟩ :: [])) (.seq (.reg (⟨(some 16), .ld 2 true (.t 4), none⟩ ::⟨(some 17), .call (.c (.fn 16 [])) [(.t 16)], none⟩ ::⟨none, .st 2 (.t 4) (.t 17), none⟩ :: [])) (.seq (.reg (⟨(some 19), .mv (.t 0), none⟩ ::⟨(some 20), .ld 2 true (.t 4), none⟩ ::⟨(some 21), .call (.c (.fn 33 [])) [(.t 19), (.t 20)], none⟩ ::⟨(some 18), .mv (.t 21), none⟩ ::⟨(some 22), .ex 0 (.t 18), none⟩ ::⟨(some 23), .ex 1 (.t 18), none⟩ ::⟨(some 7), .mv (.t 22), none⟩ ::⟨(some 8), .mv (.t 23), none⟩ :: [])) (.seq (.reg (⟨(some 25), .mv (.t 0), none⟩ ::⟨(some 26), .ld 2 true (.t 4), none⟩ ::⟨(some 27), .call (.c (.fn 34 [])) [(.t 25), (.t 26)], none⟩ ::⟨(some 24), .mv (.t 27), none⟩ ::⟨(some 28), .ex 0 (.t 24), none⟩ ::⟨(some 29), .ex 1 (.t 24), none⟩ ::⟨(some 9), .mv (.t 28), none⟩ ::⟨(some 10), .mv (.t 29), none⟩ :: [])) (.seq (.reg (⟨(some 31), .ld 2 true (.t 4), none⟩ ::⟨(some 32), .call (.c (.fn 35 [])) [(.t 31)], none⟩ ::⟨(some 30), .mv (.t 32), none⟩ ::⟨(some 33), .ex 0 (.t 30), none⟩ ::⟨(some 34), .ex 1 (.t 30), none⟩ ::⟨(some 11), .al [.int .i64 0, .int .i64 0], none⟩ ::⟨none, .st 2 (.t 11) (.t 33), none⟩ ::⟨(some 12), .mv (.t 34), none⟩ :: [])) (.seq (.reg (⟨(some 36), .ld 2 true (.t 4), none⟩ ::⟨(some 37), .call (.c (.fn 36 [])) [(.t 36)], none⟩ ::⟨(some 35), .mv (.t 37), none⟩ ::⟨(some 38), .ex 0 (.t 35), none⟩ ::⟨(some 39), .ex 1 (.t 35), none⟩ ::⟨(some 13), .al [.int .i64 0, .int .i64 0], none⟩ ::⟨none, .st 2 (.t 13) (.t 38), none⟩ ::⟨(some 14), .mv (.t 39), none⟩ :: [])) (.seq (.reg (⟨(some 15), .mv (.c (.int .i64 0)), none⟩ :: [])) (.seq (.seq (.reg (⟨(some 40), .fa 1 (.t 4), none⟩ ::⟨(some 41), .ld 1 false (.t 40), none⟩ ::⟨(some 42), .ln (.t 41), none⟩ ::⟨(some 43), .bin .gtr (.t 42) (.c (.int .i64 0)), none⟩ :: [])) (.cond (.t 43) (.reg (⟨(some 44), .fa 1 (.t 4), none⟩ ::⟨(some 45), .ld 1 false (.t 44), none⟩ ::⟨(some 46), .ia 2 (.t 45) (.c (.int .i64 0)), none⟩ ::⟨(some 47), .fa 1 (.t 46), none⟩ ::⟨(some 48), .ld 1 false (.t 47), none⟩ ::⟨(some 15), .mv (.t 48), none⟩ :: [])) .skip)) (.seq (.draw (⟨(some 49), .call (.c (.fn 37 [])) [], none⟩ ::⟨(some 50), .mv (.t 49), none⟩ ::⟨(some 51), .mv (.t 7), some (50, true)⟩ ::⟨(some 52), .mv (.t 9), some (50, true)⟩ ::⟨(some 53), .bin .eql (.t 51) (.t 52), some (50, true)⟩ ::⟨(some 54), .pick (.t 50) (.t 53) (.c (.bool false)), none⟩ ::⟨(some 55), .mv (.t 54), none⟩ ::⟨(some 56), .mv (.t 8), some (55, true)⟩ ::⟨(some 57), .mv (.t 10), some (55, true)⟩ ::⟨(some 58), .bin .eql (.t 56) (.t 57), some (55, true)⟩ ::⟨(some 59), .pick (.t 55) (.t 58) (.c (.bool false)), none⟩ ::⟨(some 60), .mv (.t 59), none⟩ ::⟨(some 61), .ld 2 true (.t 11), some (60, true)⟩ ::⟨(some 62), .ld 2 true (.t 13), some (60, true)⟩ ::⟨(some 63), .eqv false 55 (.t 61) (.t 62), some (60, true)⟩ ::⟨(some 64), .pick (.t 60) (.t 63) (.c (.bool false)), none⟩ ::⟨(some 65), .mv (.t 64), none⟩ ::⟨(some 66), .mv (.t 12), some (65, true)⟩ ::⟨(some 67), .mv (.t 14), some (65, true)⟩ ::⟨(some 68), .beq false (.t 66) (.t 67), some (65, true)⟩ ::⟨(some 69), .pick (.t 65) (.t 68) (.c (.bool false)), none⟩ ::⟨(some 70), .mv (.t 69), none⟩ ::⟨(some 71), .fa 0 (.t 5), some (70, true)⟩ ::⟨(some 72), .ld 1 false (.t 71), some (70, true)⟩ ::⟨(some 73), .mv (.t 15), some (70, true)⟩ ::⟨(some 74), .fa 1 (.t 5), some (70, true)⟩ ::⟨(some 75), .ld 1 false (.t 74), some (70, true)⟩ ::⟨(some 76), .call (.c (.fn 38 [])) [(.t 72), (.t 73), (.t 75)], some (70, true)⟩ ::⟨(some 77), .fa 0 (.t 5), some (70, true)⟩ ::⟨(some 78), .ld 1 false (.t 77), some (70, true)⟩ ::⟨(some 79), .mv (.t 15), some (70, true)⟩ ::⟨(some 80), .fa 1 (.t 5), some (70, true)⟩ ::⟨(some 81), .ld 1 false (.t 80), some (70, true)⟩ ::⟨(some 82), .call (.c (.fn 39 [])) [(.t 78), (.t 79), (.t 81)], some (70, true)⟩ ::⟨(some 83), .beq false (.t 76) (.t 82), some (70, true)⟩ ::⟨(some 84), .pick (.t 70) (.t 83) (.c (.bool false)), none⟩ ::⟨(some 85), .mv (.t 84), none⟩ ::⟨(some 86), .ld 2 true (.t 4), some (85, true)⟩ ::⟨(some 87), .fa 0 (.t 5), some (85, true)⟩ ::⟨(some 88), .ld 1 false (.t 87), some (85, true)⟩ ::⟨(some 89), .fa 1 (.t 5), some (85, true)⟩ ::⟨(some 90), .ld 1 false (.t 89), some (85, true)⟩ ::⟨(some 91), .call (.c (.fn 40 [])) [(.t 86), (.t 88), (.t 90)], some (85, true)⟩ ::⟨(some 92), .ld 2 true (.t 4), some (85, true)⟩ ::⟨(some 93), .fa 0 (.t 5), some (85, true)⟩ ::⟨(some 94), .ld 1 false (.t 93), some (85, true)⟩ ::⟨(some 95), .fa 1 (.t 5), some (85, true)⟩ ::⟨(some 96), .ld 1 false (.t 95), some (85, true)⟩ :: []) (⟨(some 97), .call (.c (.fn 41 [])) [(.t 92), (.t 94), (.t 96)], some (85, true)⟩ ::⟨(some 98), .call (.c (.fn 22 [])) [(.t 91), (.t 97)], some (85, true)⟩ ::⟨(some 99), .pick (.t 85) (.t 98) (.c (.bool false)), none⟩ ::⟨(some 6), .mv (.t 99), none⟩ :: [])) .ret)))))))))
theorem cd_fretworklaw12_FoldReduces : Code1 Try.prog 9 100 ir_fretworklaw12_FoldReduces [.t 6] := ⟨Try.call9, _, _, Try.func9, rfl, by kernel_rfl, by kernel_rfl, by kernel_rfl, by kernel_rfl⟩

set_option maxHeartbeats 4000000 in
theorem fs_FoldReduces (r n : Int) (l : List (Int × Int)) (t k : Int) (hb : Ib l) : FS Try.prog 9 [.int .i64 r, VC n l, .agg [.int .i64 t, .int .i64 k]] (.bool true) := by
  have f1 := fs_Few n l
  have hb := hb.take 60
  have e1 : (l.take 60).length ≤ 60 := by simp; omega
  have c1 := fs_Reduce r n (l.take 60) (by omega) hb
  have c2 := fs_r12Reduce r n (l.take 60) (by omega) hb
  have c3 := fs_fLeast n (l.take 60) (by omega)
  have c4 := fs_r12Least n (l.take 60) (by omega)
  have c5 := fun v => fs_Holds t v k
  have c6 := fun v => fs_r12Holds t v k
  have c7 := fs_Where n (l.take 60) t k (by omega)
  have c8 := fs_r12Where n (l.take 60) t k (by omega)
  have c9 := fs_same9 (sn n (l.take 60)) ((sl n (l.take 60)).filter fun x => hold t x.2 k) (by
    have := sl_len n (l.take 60)
    have := List.length_filter_le (fun x : Int × Int => hold t x.2 k) (sl n (l.take 60))
    omega)
  generalize redR r n (l.take 60) = rd at *
  generalize minI (sl n (l.take 60)) = m at *
  generalize decide (0 < (sl n (l.take 60)).length) = dd at *
  generalize (sl n (l.take 60)).filter (fun x => hold t x.2 k) = w at *
  generalize sn n (l.take 60) = N at *
  generalize l.take 60 = a at *
  have hal := its_len a
  have ceq := eqi false m.1 m.2 m.1 m.2
  simp only [decide_true] at ceq
  refine fs_of_cvc mixed cd_fretworklaw12_FoldReduces (by simp) ?_
  repeat' (conv => whnf); first
    | ((refine Or.inl ⟨by rfl, _, f1, ?_⟩))
    | ((refine Or.inl ⟨by rfl, _, c1, ?_⟩))
    | ((refine Or.inl ⟨by rfl, _, c2, ?_⟩))
    | ((refine Or.inl ⟨by rfl, _, c3, ?_⟩))
    | ((refine Or.inl ⟨by rfl, _, c4, ?_⟩))
    | ((refine Or.inl ⟨by rfl, _, fs_live12, ?_⟩))
    | ((refine Or.inl ⟨by rfl, _, c5 _, ?_⟩))
    | ((refine Or.inl ⟨by rfl, _, c6 _, ?_⟩))
    | ((refine Or.inl ⟨by rfl, _, c7, ?_⟩))
    | ((refine Or.inl ⟨by rfl, _, c8, ?_⟩))
    | ((refine Or.inl ⟨by rfl, _, c9, ?_⟩))
    | ((refine ⟨_, ceq, ?_⟩))
    | ((refine fun x hx => ?_); (obtain ⟨u, v, rfl⟩ := its_hd hx; clear hx))
    | ((refine Br.beq (by rfl) ?_))
    | ((refine Br.bne (by rfl) ?_))
    | (refine Br.tt ?_)
    | (refine Br.ff ?_)
    | (refine Br.dec (fun h => ?_) (fun h => ?_)) <;> try (exfalso; omega)
    | (refine Br.neg ?_)
    | (refine Br.mk (fun h => ?_) (fun h => ?_))
    | (refine And.intro rfl ?_)
    | (refine And.intro (by omega) ?_)
    | (refine ⟨_, Or.inl ⟨⟨by omega, by omega⟩, rfl⟩, ?_⟩)
    | (refine And.intro (by simp only [lens_all]; first | done | omega) ?_)
    | (refine And.intro (Nat.le_refl _) ?_)
    | fail
  all_goals first
    | exact rfl
    | (show SV.bool _ = SV.bool true; simp)

theorem selR_le (n : Int) (l : List (Int × Int)) (at' : List Int) : (selR n l at').2.1.length ≤ 4096 := by
  unfold selR
  split
  · exact Nat.zero_le _
  · split
    · exact Nat.zero_le _
    · exact Nat.le_trans (selK_le _ _ _) (by omega)
theorem asR_le (n : Int) (l : List (Int × Int)) (at' : List Int) (nx : Int) (lx : List (Int × Int)) : (asR n l at' nx lx).2.1.length ≤ 4096 := by
  unfold asR
  split
  · exact Nat.zero_le _
  · split
    · exact Nat.zero_le _
    · exact (okV_asK (okV n l) _ _ _).le

def ir_fretworklaw12_FoldPicks : IR :=
(.seq (.reg (⟨(some 3), .bx (.t 0), none⟩ ::⟨(some 4), .bx (.t 1), none⟩ ::⟨(some 6), .mv (.c (.bool false)), none⟩ :: [])) (.seq (.draw (⟨(some 15), .ld 2 true (.t 3), none⟩ ::⟨(some 16), .call (.c (.fn 16 [])) [(.t 15)], none⟩ ::⟨(some 17), .ld 2 true (.t 4), none⟩ :: []) (⟨(some 18), .call (.c (.fn 16 [])) [(.t 17)], none⟩ ::⟨none, .st 2 (.t 3) (.t 16), none⟩ ::⟨none, .st 2 (.t 4) (.t 18), none⟩ :: [])) (.seq (.seq (.reg (⟨(some 19), .mv (.t 2), none⟩ ::⟨(some 20), .ln (.t 19), none⟩ ::⟨(some 21), .bin .gtr (.t 20) (.c (.int .i64 30)), none⟩ ::⟨(some 22), .mv (.t 21), none⟩ ::⟨(some 23), .mv (.t 2), some (22, true)⟩ ::⟨(some 24), .ln (.t 23), some (22, true)⟩ ::⟨(some 25), .bin .leq (.t 24) (.c (.int .i64 4096)), some (22, true)⟩ ::⟨(some 26), .pick (.t 22) (.t 25) (.c (.bool false)), none⟩ :: [])) (.cond (.t 26) (.reg (⟨(some 27), .mv (.t 2), none⟩ ::⟨(some 28), .sl 1 (.t 27) none (some (.c (.int .i64 30))) none, none⟩ ::⟨(some 2), .mv (.t 28), none⟩ :: [])) .skip)) (.seq (.reg (⟨(some 30), .ld 2 true (.t 3), none⟩ ::⟨(some 31), .mv (.t 2), none⟩ ::⟨(some 32), .call (.c (.fn 42 [])) [(.t 30), (.t 31)], none⟩ ::⟨(some 29), .mv (.t 32), none⟩ ::⟨(some 33), .ex 0 (.t 29), none⟩ ::⟨(some 34), .ex 1 (.t 29), none⟩ ::⟨(some 7), .al [.int .i64 0, .nils], none⟩ ::⟨none, .st 2 (.t 7) (.t 33), none⟩ ::⟨(some 8), .mv (.t 34), none⟩ :: [])) (.seq (.reg (⟨(some 36), .ld 2 true (.t 3), none⟩ ::⟨(some 37), .mv (.t 2), none⟩ ::⟨(some 38), .call (.c (.fn 43 [])) [(.t 36), (.t 37)], none⟩ ::⟨(some 35), .mv (.t 38), none⟩ ::⟨(some 39), .ex 0 (.t 35), none⟩ ::⟨(some 40), .ex 1 (.t 35), none⟩ ::⟨(some 9), .al [.int .i64 0, .nils], none⟩ ::⟨none, .st 2 (.t 9) (.t 39), none⟩ ::⟨(some 10), .mv (.t 40), none⟩ :: [])) (.seq (.reg (⟨(some 42), .ld 2 true (.t 3), none⟩ ::⟨(some 43), .mv (.t 2), none⟩ ::⟨(some 44), .ld 2 true (.t 4), none⟩ ::⟨(some 45), .call (.c (.fn 44 [])) [(.t 42), (.t 43), (.t 44)], none⟩ ::⟨(some 41), .mv (.t 45), none⟩ ::⟨(some 46), .ex 0 (.t 41), none⟩ ::⟨(some 47), .ex 1 (.t 41), none⟩ ::⟨(some 11), .al [.int .i64 0, .nils], none⟩ ::⟨none, .st 2 (.t 11) (.t 46), none⟩ ::⟨(some 12), .mv (.t 47), none⟩ :: [])) (.seq (.reg (⟨(some 49), .ld 2 true (.t 3), none⟩ ::⟨(some 50), .mv (.t 2), none⟩ ::⟨(some 51), .ld 2 true (.t 4), none⟩ ::⟨(some 52), .call (.c (.fn 45 [])) [(.t 49), (.t 50), (.t 51)], none⟩ ::⟨(some 48), .mv (.t 52), none⟩ ::⟨(some 53), .ex 0 (.t 48), none⟩ ::⟨(some 54), .ex 1 (.t 48), none⟩ ::⟨(some 13), .al [.int .i64 0, .nils], none⟩ ::⟨none, .st 2 (.t 13) (.t 53), none⟩ ::⟨(some 14), .mv (.t 54), none⟩ :: [])) (.seq (.reg (⟨(some 55), .call (.c (.fn 37 [])) [], none⟩ ::⟨(some 56), .mv (.t 55), none⟩ ::⟨(some 57), .ld 2 true (.t 7), some (56, true)⟩ ::⟨(some 58), .ld 2 true (.t 9), some (56, true)⟩ ::⟨(some 59), .call (.c (.fn 22 [])) [(.t 57), (.t 58)], some (56, true)⟩ ::⟨(some 60), .pick (.t 56) (.t 59) (.c (.bool false)), none⟩ ::⟨(some 61), .mv (.t 60), none⟩ ::⟨(some 62), .mv (.t 8), some (61, true)⟩ ::⟨(some 63), .mv (.t 10), some (61, true)⟩ ::⟨(some 64), .bin .eql (.t 62) (.t 63), some (61, true)⟩ ::⟨(some 65), .pick (.t 61) (.t 64) (.c (.bool false)), none⟩ ::⟨(some 66), .mv (.t 65), none⟩ ::⟨(some 67), .ld 2 true (.t 11), some (66, true)⟩ ::⟨(some 68), .ld 2 true (.t 13), some (66, true)⟩ ::⟨(some 69), .call (.c (.fn 22 [])) [(.t 67), (.t 68)], some (66, true)⟩ ::⟨(some 70), .pick (.t 66) (.t 69) (.c (.bool false)), none⟩ ::⟨(some 71), .mv (.t 70), none⟩ ::⟨(some 72), .mv (.t 12), some (71, true)⟩ ::⟨(some 73), .mv (.t 14), some (71, true)⟩ ::⟨(some 74), .bin .eql (.t 72) (.t 73), some (71, true)⟩ ::⟨(some 75), .pick (.t 71) (.t 74) (.c (.bool false)), none⟩ ::⟨(some 6), .mv (.t 75), none⟩ :: [])) .ret))))))))
theorem cd_fretworklaw12_FoldPicks : Code1 Try.prog 10 76 ir_fretworklaw12_FoldPicks [.t 6] := ⟨Try.call10, _, _, Try.func10, rfl, by kernel_rfl, by kernel_rfl, by kernel_rfl, by kernel_rfl⟩

set_option maxHeartbeats 4000000 in
theorem fs_FoldPicks (n : Int) (l : List (Int × Int)) (nx : Int) (lx : List (Int × Int)) (at' : List Int) : FS Try.prog 10 [VC n l, VC nx lx, Z at'] (.bool true) := by
  have f1 := fs_Few n l
  have f2 := fs_Few nx lx
  have e1 : (l.take 60).length ≤ 60 := by simp; omega
  have e2 : (lx.take 60).length ≤ 60 := by simp; omega
  generalize l.take 60 = a at *
  generalize lx.take 60 = x at *
  have hzl := zs_len at'
  have core : ∀ q : List Int, q.length ≤ at'.length → 
      FS Try.prog 42 [VC n a, Z q] (VE (selR n a q)) ∧ FS Try.prog 43 [VC n a, Z q] (VE (selR n a q)) ∧ 
      FS Try.prog 44 [VC n a, Z q, VC nx x] (VE (asR n a q nx x)) ∧ FS Try.prog 45 [VC n a, Z q, VC nx x] (VE (asR n a q nx x)) ∧
      FS Try.prog 22 [VC (selR n a q).1 (selR n a q).2.1, VC (selR n a q).1 (selR n a q).2.1] (.bool true) ∧ FS Try.prog 22 [VC (asR n a q nx x).1 (asR n a q nx x).2.1, VC (asR n a q nx x).1 (asR n a q nx x).2.1] (.bool true) := fun q hq =>
    ⟨fs_Select n a q (by omega), fs_r12Select n a q (by omega), fs_Assign n a q nx x (by omega) (by omega), fs_r12Assign n a q nx x (by omega) (by omega),
      fs_same9 _ _ (by have := selR_le n a q; omega), fs_same9 _ _ (by have := asR_le n a q nx x; omega)⟩
  have hz30 : Z (at'.take 30) = .slc 1 (((zs at').take 30).drop 0) := by simp [Z, zs, List.map_take]
  refine fs_of_cvc mixed cd_fretworklaw12_FoldPicks (by simp) ?_
  by_cases h30 : 30 < at'.length ∧ at'.length ≤ 4096
  · obtain ⟨ha, hb⟩ := h30
    obtain ⟨c1, c2, c3, c4, c5, c6⟩ := core (at'.take 30) (by simp; omega)
    rw [hz30] at c1 c2 c3 c4
    generalize selR n a (at'.take 30) = t at *
    generalize asR n a (at'.take 30) nx x = s at *
    repeat' (conv => whnf); first
      | ((refine Or.inl ⟨by rfl, _, f1, ?_⟩))
      | ((refine Or.inl ⟨by rfl, _, f2, ?_⟩))
      | ((refine Or.inl ⟨by rfl, _, c1, ?_⟩))
      | ((refine Or.inl ⟨by rfl, _, c2, ?_⟩))
      | ((refine Or.inl ⟨by rfl, _, c3, ?_⟩))
      | ((refine Or.inl ⟨by rfl, _, c4, ?_⟩))
      | ((refine Or.inl ⟨by rfl, _, fs_live12, ?_⟩))
      | ((refine Or.inl ⟨by rfl, _, c5, ?_⟩))
      | ((refine Or.inl ⟨by rfl, _, c6, ?_⟩))
      | ((refine Br.beq (by rfl) ?_))
      | ((refine Br.bne (by rfl) ?_))
      | (refine Br.tt ?_)
      | (refine Br.ff ?_)
      | (refine Br.dec (fun h => ?_) (fun h => ?_)) <;> try (exfalso; omega)
      | (refine Br.neg ?_)
      | (refine Br.mk (fun h => ?_) (fun h => ?_))
      | (refine And.intro rfl ?_)
      | (refine And.intro (by omega) ?_)
      | (refine ⟨_, Or.inl ⟨⟨by omega, by omega⟩, rfl⟩, ?_⟩)
      | (refine And.intro (by simp only [lens_all]; first | done | omega) ?_)
      | (refine And.intro (Nat.le_refl _) ?_)
      | fail
    all_goals first
      | exact rfl
      | (show SV.bool _ = SV.bool true; simp)
  · obtain ⟨c1, c2, c3, c4, c5, c6⟩ := core at' (Nat.le_refl _)
    generalize selR n a at' = t at *
    generalize asR n a at' nx x = s at *
    repeat' (conv => whnf); first
      | ((refine Or.inl ⟨by rfl, _, f1, ?_⟩))
      | ((refine Or.inl ⟨by rfl, _, f2, ?_⟩))
      | ((refine Or.inl ⟨by rfl, _, c1, ?_⟩))
      | ((refine Or.inl ⟨by rfl, _, c2, ?_⟩))
      | ((refine Or.inl ⟨by rfl, _, c3, ?_⟩))
      | ((refine Or.inl ⟨by rfl, _, c4, ?_⟩))
      | ((refine Or.inl ⟨by rfl, _, fs_live12, ?_⟩))
      | ((refine Or.inl ⟨by rfl, _, c5, ?_⟩))
      | ((refine Or.inl ⟨by rfl, _, c6, ?_⟩))
      | ((refine Br.beq (by rfl) ?_))
      | ((refine Br.bne (by rfl) ?_))
      | (refine Br.tt ?_)
      | (refine Br.ff ?_)
      | (refine Br.dec (fun h => ?_) (fun h => ?_)) <;> try (exfalso; omega)
      | (refine Br.neg ?_)
      | (refine Br.mk (fun h => ?_) (fun h => ?_))
      | (refine And.intro rfl ?_)
      | (refine And.intro (by omega) ?_)
      | (refine ⟨_, Or.inl ⟨⟨by omega, by omega⟩, rfl⟩, ?_⟩)
      | (refine And.intro (by simp only [lens_all]; first | done | omega) ?_)
      | (refine And.intro (Nat.le_refl _) ?_)
      | fail
    all_goals first
      | exact rfl
      | (show SV.bool _ = SV.bool true; simp)
end
section
open Go.RowKit
attribute [local irreducible] FS FO IT HS

theorem gt_filtM {l : List (Int × Int)} (hu : Up l) (p : Int × Int → Bool) {x : Int × Int} (hx : x ∈ l) : (gt (l.filter p) x.1).isSome = p x := by
  cases hp : p x with
  | true => rw [gt_some (hu.filter p) (List.mem_filter.2 ⟨hx, hp⟩)]; rfl
  | false =>
    rw [gt_none]; rfl
    intro y hy he
    obtain ⟨h1, h2⟩ := List.mem_filter.1 hy
    have g1 := gt_some hu h1
    rw [he, gt_some hu hx] at g1
    have : y = x := Prod.ext he (Option.some.inj g1).symm
    rw [this, hp] at h2; cases h2
theorem three_len (k : Int) : ∀ l : List (Int × Int), (l.filter fun x => hold 1 x.2 k).length + (l.filter fun x => hold 3 x.2 k).length + (l.filter fun x => hold 2 x.2 k).length = l.length
  | [] => rfl
  | x :: l => by
    have ih := three_len k l
    rcases Int.lt_trichotomy x.2 k with h | h | h
    · have h1 : hold 1 x.2 k = true := by unfold hold; simp [h]
      have h2 : hold 3 x.2 k = false := by unfold hold; simp; omega
      have h3 : hold 2 x.2 k = false := by unfold hold; simp; omega
      simp only [List.filter_cons, h1, h2, h3, List.length_cons]
      simp only [if_true, Bool.false_eq_true, if_false, List.length_cons]; omega
    · have h1 : hold 1 x.2 k = false := by unfold hold; simp; omega
      have h2 : hold 3 x.2 k = true := by unfold hold; simp [h]
      have h3 : hold 2 x.2 k = false := by unfold hold; simp; omega
      simp only [List.filter_cons, h1, h2, h3, List.length_cons]
      simp only [if_true, Bool.false_eq_true, if_false, List.length_cons]; omega
    · have h1 : hold 1 x.2 k = false := by unfold hold; simp; omega
      have h2 : hold 3 x.2 k = false := by unfold hold; simp; omega
      have h3 : hold 2 x.2 k = true := by unfold hold; simp [h]
      simp only [List.filter_cons, h1, h2, h3, List.length_cons]
      simp only [if_true, Bool.false_eq_true, if_false, List.length_cons]; omega

def ir_fretworklaw12_FoldWhere : IR :=
(.seq (.reg (⟨(some 6), .mv (.c (.bool false)), none⟩ :: [])) (.seq (.reg (⟨(some 22), .mv (.t 0), none⟩ ::⟨(some 23), .mv (.t 1), none⟩ ::⟨(some 24), .call (.c (.fn 31 [])) [(.t 22), (.t 23)], none⟩ ::⟨(some 7), .al [.int .i64 0, .nils], none⟩ ::⟨none, .st 2 (.t 7) (.t 24), none⟩ :: [])) (.seq (.draw (⟨(some 25), .ld 2 true (.t 7), none⟩ ::⟨(some 26), .mv (.t 2), none⟩ ::⟨(some 27), .call (.c (.fn 40 [])) [(.t 25), (.c (.int .i64 1)), (.t 26)], none⟩ ::⟨(some 28), .ld 2 true (.t 7), none⟩ ::⟨(some 29), .mv (.t 2), none⟩ ::⟨(some 30), .call (.c (.fn 40 [])) [(.t 28), (.c (.int .i64 3)), (.t 29)], none⟩ ::⟨(some 31), .ld 2 true (.t 7), none⟩ ::⟨(some 32), .mv (.t 2), none⟩ ::⟨(some 33), .call (.c (.fn 40 [])) [(.t 31), (.c (.int .i64 2)), (.t 32)], none⟩ ::⟨(some 34), .ld 2 true (.t 7), none⟩ ::⟨(some 35), .mv (.t 2), none⟩ ::⟨(some 36), .call (.c (.fn 40 [])) [(.t 34), (.c (.int .i64 4)), (.t 35)], none⟩ ::⟨(some 8), .al [.int .i64 0, .nils], none⟩ ::⟨(some 9), .al [.int .i64 0, .nils], none⟩ ::⟨(some 10), .al [.int .i64 0, .nils], none⟩ ::⟨(some 11), .al [.int .i64 0, .nils], none⟩ :: []) (⟨none, .st 2 (.t 8) (.t 27), none⟩ ::⟨none, .st 2 (.t 9) (.t 30), none⟩ ::⟨none, .st 2 (.t 10) (.t 33), none⟩ ::⟨none, .st 2 (.t 11) (.t 36), none⟩ :: [])) (.seq (.seq (.reg (⟨(some 12), .mv (.c (.int .i64 0)), none⟩ :: [])) (.block 0 (.loop (.seq (.seq (.reg (⟨(some 37), .mv (.t 12), none⟩ ::⟨(some 38), .fa 1 (.t 7), none⟩ ::⟨(some 39), .ld 1 false (.t 38), none⟩ ::⟨(some 40), .ln (.t 39), none⟩ ::⟨(some 41), .bin .lss (.t 37) (.t 40), none⟩ :: [])) (.cond (.t 41) .skip (.exit 0))) (.seq (.block 1 (.seq (.reg (⟨(some 44), .fa 1 (.t 7), none⟩ ::⟨(some 45), .ld 1 false (.t 44), none⟩ ::⟨(some 46), .mv (.t 12), none⟩ ::⟨(some 47), .ia 2 (.t 45) (.t 46), none⟩ ::⟨(some 48), .fa 0 (.t 47), none⟩ ::⟨(some 49), .ld 1 false (.t 48), none⟩ ::⟨(some 13), .mv (.t 49), none⟩ :: [])) (.seq (.reg (⟨(some 51), .ld 2 true (.t 8), none⟩ ::⟨(some 52), .mv (.t 13), none⟩ ::⟨(some 53), .call (.c (.fn 50 [])) [(.t 51), (.t 52)], none⟩ ::⟨(some 50), .mv (.t 53), none⟩ ::⟨(some 54), .ex 0 (.t 50), none⟩ ::⟨(some 55), .ex 1 (.t 50), none⟩ ::⟨(some 14), .mv (.t 54), none⟩ ::⟨(some 15), .mv (.t 55), none⟩ :: [])) (.seq (.reg (⟨(some 57), .ld 2 true (.t 9), none⟩ ::⟨(some 58), .mv (.t 13), none⟩ ::⟨(some 59), .call (.c (.fn 50 [])) [(.t 57), (.t 58)], none⟩ ::⟨(some 56), .mv (.t 59), none⟩ ::⟨(some 60), .ex 0 (.t 56), none⟩ ::⟨(some 61), .ex 1 (.t 56), none⟩ ::⟨(some 16), .mv (.t 60), none⟩ ::⟨(some 17), .mv (.t 61), none⟩ :: [])) (.seq (.reg (⟨(some 63), .ld 2 true (.t 10), none⟩ ::⟨(some 64), .mv (.t 13), none⟩ ::⟨(some 65), .call (.c (.fn 50 [])) [(.t 63), (.t 64)], none⟩ ::⟨(some 62), .mv (.t 65), none⟩ ::⟨(some 66), .ex 0 (.t 62), none⟩ ::⟨(some 67), .ex 1 (.t 62), none⟩ ::⟨(some 18), .mv (.t 66), none⟩ ::⟨(some 19), .mv (.t 67), none⟩ :: [])) (.seq (.reg (⟨(some 69), .ld 2 true (.t 11), none⟩ ::⟨(some 70), .mv (.t 13), none⟩ ::⟨(some 71), .call (.c (.fn 50 [])) [(.t 69), (.t 70)], none⟩ ::⟨(some 68), .mv (.t 71), none⟩ ::⟨(some 72), .ex 0 (.t 68), none⟩ ::⟨(some 73), .ex 1 (.t 68), none⟩ ::⟨(some 20), .mv (.t 72), none⟩ ::⟨(some 21), .mv (.t 73), none⟩ :: [])) (.seq (.reg (⟨(some 74), .mv (.t 15), none⟩ ::⟨(some 75), .mv (.t 74), none⟩ ::⟨(some 76), .mv (.t 17), some (75, true)⟩ ::⟨(some 77), .pick (.t 75) (.t 76) (.c (.bool false)), none⟩ ::⟨(some 78), .mv (.t 77), none⟩ ::⟨(some 79), .mv (.t 17), some (78, false)⟩ ::⟨(some 80), .mv (.t 79), some (78, false)⟩ ::⟨(some 81), .mv (.t 19), some (80, true)⟩ ::⟨(some 82), .pick (.t 80) (.t 81) (.c (.bool false)), some (78, false)⟩ ::⟨(some 83), .pick (.t 78) (.c (.bool true)) (.t 82), none⟩ ::⟨(some 84), .mv (.t 83), none⟩ ::⟨(some 85), .mv (.t 15), some (84, false)⟩ ::⟨(some 86), .mv (.t 85), some (84, false)⟩ ::⟨(some 87), .mv (.t 19), some (86, true)⟩ ::⟨(some 88), .pick (.t 86) (.t 87) (.c (.bool false)), some (84, false)⟩ ::⟨(some 89), .pick (.t 84) (.c (.bool true)) (.t 88), none⟩ ::⟨(some 90), .mv (.t 89), none⟩ ::⟨(some 91), .mv (.t 15), some (90, false)⟩ ::⟨(some 92), .un .not (.t 91), some (90, false)⟩ ::⟨(some 93), .mv (.t 92), some (90, false)⟩ ::⟨(some 94), .mv (.t 17), some (93, true)⟩ ::⟨(some 95), .un .not (.t 94), some (93, true)⟩ ::⟨(some 96), .pick (.t 93) (.t 95) (.c (.bool false)), some (90, false)⟩ ::⟨(some 97), .mv (.t 96), some (90, false)⟩ ::⟨(some 98), .mv (.t 19), some (97, true)⟩ ::⟨(some 99), .un .not (.t 98), some (97, true)⟩ ::⟨(some 100), .pick (.t 97) (.t 99) (.c (.bool false)), some (90, false)⟩ ::⟨(some 101), .pick (.t 90) (.c (.bool true)) (.t 100), none⟩ ::⟨(some 102), .mv (.t 101), none⟩ ::⟨(some 103), .mv (.t 21), some (102, false)⟩ ::⟨(some 104), .mv (.t 17), some (102, false)⟩ ::⟨(some 105), .beq false (.t 103) (.t 104), some (102, false)⟩ ::⟨(some 106), .pick (.t 102) (.c (.bool true)) (.t 105), none⟩ :: [])) (.cond (.t 106) (.seq (.reg (⟨(some 6), .mv (.c (.bool false)), none⟩ :: [])) .ret) .skip)))))))) (.reg (⟨(some 42), .mv (.t 12), none⟩ ::⟨(some 43), .bin .add (.t 42) (.c (.int .i64 1)), none⟩ ::⟨(some 12), .mv (.t 43), none⟩ :: []))))))) (.seq (.reg (⟨(some 107), .call (.c (.fn 37 [])) [], none⟩ ::⟨(some 108), .mv (.t 107), none⟩ ::⟨(some 109), .fa 1 (.t 8), some (108, true)⟩ ::⟨(some 110), .ld 1 false (.t 109), some (108, true)⟩ ::⟨(some 111), .ln (.t 110), some (108, true)⟩ ::⟨(some 112), .fa 1 (.t 9), some (108, true)⟩ ::⟨(some 113), .ld 1 false (.t 112), some (108, true)⟩ ::⟨(some 114), .ln (.t 113), some (108, true)⟩ ::⟨(some 115), .bin .add (.t 111) (.t 114), some (108, true)⟩ ::⟨(some 116), .fa 1 (.t 10), some (108, true)⟩ ::⟨(some 117), .ld 1 false (.t 116), some (108, true)⟩ ::⟨(some 118), .ln (.t 117), some (108, true)⟩ ::⟨(some 119), .bin .add (.t 115) (.t 118), some (108, true)⟩ ::⟨(some 120), .fa 1 (.t 7), some (108, true)⟩ ::⟨(some 121), .ld 1 false (.t 120), some (108, true)⟩ ::⟨(some 122), .ln (.t 121), some (108, true)⟩ ::⟨(some 123), .bin .eql (.t 119) (.t 122), some (108, true)⟩ ::⟨(some 124), .pick (.t 108) (.t 123) (.c (.bool false)), none⟩ ::⟨(some 6), .mv (.t 124), none⟩ :: [])) .ret)))))
theorem cd_fretworklaw12_FoldWhere : Code1 Try.prog 12 125 ir_fretworklaw12_FoldWhere [.t 6] := ⟨Try.call12, _, _, Try.func12, rfl, by kernel_rfl, by kernel_rfl, by kernel_rfl, by kernel_rfl⟩

set_option maxHeartbeats 8000000 in
theorem fs_FoldWhere (n : Int) (l : List (Int × Int)) (k : Int) (hn : 0 ≤ n ∧ n ≤ 255) (hb : Ib l) : FS Try.prog 12 [.int .u8 n, IL l, .int .i64 k] (.bool true) := by
  refine fs_of_cvc mixed cd_fretworklaw12_FoldWhere (by simp) ?_
  have ct1 := fs_Some n l hn hb
  obtain ⟨a, ea, ha, ia, la⟩ := sm_ok hn hb
  rw [ea] at ct1
  generalize n.tmod 60 = K at *
  have w : ∀ t, FS Try.prog 40 [VC K a, .int .i64 t, .int .i64 k] (VC K (a.filter fun x => hold t x.2 k)) := fun t => by
    have := fs_Where K a t k (by omega)
    rwa [ha.sn, ha.sl] at this
  have c1 := w 1
  have c2 := w 2
  have c3 := w 3
  have c4 := w 4
  have lf : ∀ t, (a.filter fun x => hold t x.2 k).length ≤ a.length := fun t => List.length_filter_le _ _
  have l1 := lf 1
  have l2 := lf 2
  have l3 := lf 3
  have gg : ∀ t p, FS Try.prog 50 [VC K (a.filter fun x => hold t x.2 k), .int .i64 p] (.tup [.int .i64 ((gt (a.filter fun x => hold t x.2 k) p).getD 0), .bool (gt (a.filter fun x => hold t x.2 k) p).isSome]) := fun t p => by
    have := fs_r9Get K (a.filter fun x => hold t x.2 k) p (by have := lf t; omega)
    rwa [(ha.filt _).sl] at this
  have h3 := three_len k a
  have hal := its_len a
  have hl1 := its_len (a.filter fun x => hold 1 x.2 k)
  have hl2 := its_len (a.filter fun x => hold 2 x.2 k)
  have hl3 := its_len (a.filter fun x => hold 3 x.2 k)
  repeat' (conv => whnf); first
    | ((refine Or.inl ⟨by rfl, _, ct1, ?_⟩))
    | ((refine Or.inl ⟨by rfl, _, c1, ?_⟩))
    | ((refine Or.inl ⟨by rfl, _, c2, ?_⟩))
    | ((refine Or.inl ⟨by rfl, _, c3, ?_⟩))
    | ((refine Or.inl ⟨by rfl, _, c4, ?_⟩))
    | ((refine Br.beq (by rfl) ?_))
    | ((refine Br.bne (by rfl) ?_))
    | (refine Br.tt ?_)
    | (refine Br.ff ?_)
    | (refine Br.dec (fun h => ?_) (fun h => ?_)) <;> try (exfalso; omega)
    | (refine Br.neg ?_)
    | (refine Br.mk (fun h => ?_) (fun h => ?_))
    | (refine And.intro rfl ?_)
    | (refine And.intro (by omega) ?_)
    | (refine ⟨_, Or.inl ⟨⟨by omega, by omega⟩, rfl⟩, ?_⟩)
    | (refine And.intro (by simp only [lens_all]; first | done | omega) ?_)
    | (refine And.intro (Nat.le_refl _) ?_)
    | fail
  refine ⟨Nat, fun j => j ≤ a.length, fun j => [(6, .bool false), (7, .ptr 0 0 0 0), (8, .ptr 1 0 0 0), (9, .ptr 2 0 0 0), (10, .ptr 3 0 0 0), (11, .ptr 4 0 0 0), (12, .int .i64 (j : Int))],
    fun _ => [.vars [.int .i64 K, IL a], .vars [.int .i64 K, IL (a.filter fun x => hold 1 x.2 k)], .vars [.int .i64 K, IL (a.filter fun x => hold 3 x.2 k)], .vars [.int .i64 K, IL (a.filter fun x => hold 2 x.2 k)], .vars [.int .i64 K, IL (a.filter fun x => hold 4 x.2 k)]], fun _ => none, fun j => a.length - j,
    ⟨0, Nat.zero_le _, ⟨rfl, rfl, rfl, rfl, rfl, rfl, rfl, trivial⟩, ⟨⟨rfl, rfl, trivial⟩, ⟨rfl, rfl, trivial⟩, ⟨rfl, rfl, trivial⟩, ⟨rfl, rfl, trivial⟩, ⟨rfl, rfl, trivial⟩, trivial⟩, rfl⟩, fun j hj => ?_⟩
  have hj : j ≤ a.length := hj
  by_cases hja : j < a.length
  · obtain ⟨x, hx⟩ : ∃ x, a.getD j (0, 0) = x := ⟨_, rfl⟩
    have hxm : x ∈ a := by rw [← hx]; simp [hja]
    have g1 := gg 1 x.1
    have g2 := gg 2 x.1
    have g3 := gg 3 x.1
    have g4 := gg 4 x.1
    rw [gt_filtM ha.up _ hxm] at g1 g2 g3 g4
    rcases Int.lt_trichotomy x.2 k with h | h | h
    · rw [show hold 1 x.2 k = true by unfold hold; simp [h]] at g1
      rw [show hold 2 x.2 k = false by unfold hold; simp; omega] at g2
      rw [show hold 3 x.2 k = false by unfold hold; simp; omega] at g3
      rw [show hold 4 x.2 k = true by unfold hold; simp; omega] at g4
      repeat' (conv => whnf); first
        | ((refine its_go' (i := j) (by omega) hx ?_))
        | ((refine Or.inl ⟨by rfl, _, g1, ?_⟩))
        | ((refine Or.inl ⟨by rfl, _, g2, ?_⟩))
        | ((refine Or.inl ⟨by rfl, _, g3, ?_⟩))
        | ((refine Or.inl ⟨by rfl, _, g4, ?_⟩))
        | ((refine Br.beq (by rfl) ?_))
        | ((refine Br.bne (by rfl) ?_))
        | (refine Br.tt ?_)
        | (refine Br.ff ?_)
        | (refine Br.dec (fun h => ?_) (fun h => ?_)) <;> try (exfalso; omega)
        | (refine Br.neg ?_)
        | (refine Br.mk (fun h => ?_) (fun h => ?_))
        | (refine And.intro rfl ?_)
        | (refine And.intro (by omega) ?_)
        | (refine ⟨_, Or.inl ⟨⟨by omega, by omega⟩, rfl⟩, ?_⟩)
        | (refine And.intro (by simp only [lens_all]; first | done | omega) ?_)
        | (refine And.intro (Nat.le_refl _) ?_)
        | fail
      exact ⟨j + 1, (show j + 1 ≤ a.length by omega), (show a.length - (j + 1) < a.length - j by omega), ⟨rfl, rfl, rfl, rfl, rfl, rfl, rfl, trivial⟩, ⟨⟨rfl, rfl, trivial⟩, ⟨rfl, rfl, trivial⟩, ⟨rfl, rfl, trivial⟩, ⟨rfl, rfl, trivial⟩, ⟨rfl, rfl, trivial⟩, trivial⟩, rfl⟩
    · rw [show hold 1 x.2 k = false by unfold hold; simp; omega] at g1
      rw [show hold 2 x.2 k = false by unfold hold; simp; omega] at g2
      rw [show hold 3 x.2 k = true by unfold hold; simp [h]] at g3
      rw [show hold 4 x.2 k = false by unfold hold; simp [h]] at g4
      repeat' (conv => whnf); first
        | ((refine its_go' (i := j) (by omega) hx ?_))
        | ((refine Or.inl ⟨by rfl, _, g1, ?_⟩))
        | ((refine Or.inl ⟨by rfl, _, g2, ?_⟩))
        | ((refine Or.inl ⟨by rfl, _, g3, ?_⟩))
        | ((refine Or.inl ⟨by rfl, _, g4, ?_⟩))
        | ((refine Br.beq (by rfl) ?_))
        | ((refine Br.bne (by rfl) ?_))
        | (refine Br.tt ?_)
        | (refine Br.ff ?_)
        | (refine Br.dec (fun h => ?_) (fun h => ?_)) <;> try (exfalso; omega)
        | (refine Br.neg ?_)
        | (refine Br.mk (fun h => ?_) (fun h => ?_))
        | (refine And.intro rfl ?_)
        | (refine And.intro (by omega) ?_)
        | (refine ⟨_, Or.inl ⟨⟨by omega, by omega⟩, rfl⟩, ?_⟩)
        | (refine And.intro (by simp only [lens_all]; first | done | omega) ?_)
        | (refine And.intro (Nat.le_refl _) ?_)
        | fail
      exact ⟨j + 1, (show j + 1 ≤ a.length by omega), (show a.length - (j + 1) < a.length - j by omega), ⟨rfl, rfl, rfl, rfl, rfl, rfl, rfl, trivial⟩, ⟨⟨rfl, rfl, trivial⟩, ⟨rfl, rfl, trivial⟩, ⟨rfl, rfl, trivial⟩, ⟨rfl, rfl, trivial⟩, ⟨rfl, rfl, trivial⟩, trivial⟩, rfl⟩
    · rw [show hold 1 x.2 k = false by unfold hold; simp; omega] at g1
      rw [show hold 2 x.2 k = true by unfold hold; simp; omega] at g2
      rw [show hold 3 x.2 k = false by unfold hold; simp; omega] at g3
      rw [show hold 4 x.2 k = true by unfold hold; simp; omega] at g4
      repeat' (conv => whnf); first
        | ((refine its_go' (i := j) (by omega) hx ?_))
        | ((refine Or.inl ⟨by rfl, _, g1, ?_⟩))
        | ((refine Or.inl ⟨by rfl, _, g2, ?_⟩))
        | ((refine Or.inl ⟨by rfl, _, g3, ?_⟩))
        | ((refine Or.inl ⟨by rfl, _, g4, ?_⟩))
        | ((refine Br.beq (by rfl) ?_))
        | ((refine Br.bne (by rfl) ?_))
        | (refine Br.tt ?_)
        | (refine Br.ff ?_)
        | (refine Br.dec (fun h => ?_) (fun h => ?_)) <;> try (exfalso; omega)
        | (refine Br.neg ?_)
        | (refine Br.mk (fun h => ?_) (fun h => ?_))
        | (refine And.intro rfl ?_)
        | (refine And.intro (by omega) ?_)
        | (refine ⟨_, Or.inl ⟨⟨by omega, by omega⟩, rfl⟩, ?_⟩)
        | (refine And.intro (by simp only [lens_all]; first | done | omega) ?_)
        | (refine And.intro (Nat.le_refl _) ?_)
        | fail
      exact ⟨j + 1, (show j + 1 ≤ a.length by omega), (show a.length - (j + 1) < a.length - j by omega), ⟨rfl, rfl, rfl, rfl, rfl, rfl, rfl, trivial⟩, ⟨⟨rfl, rfl, trivial⟩, ⟨rfl, rfl, trivial⟩, ⟨rfl, rfl, trivial⟩, ⟨rfl, rfl, trivial⟩, ⟨rfl, rfl, trivial⟩, trivial⟩, rfl⟩
  · obtain rfl : j = a.length := by omega
    repeat' (conv => whnf); first
      | ((refine Or.inl ⟨by rfl, _, fs_live12, ?_⟩))
      | ((refine Br.beq (by rfl) ?_))
      | ((refine Br.bne (by rfl) ?_))
      | (refine Br.tt ?_)
      | (refine Br.ff ?_)
      | (refine Br.dec (fun h => ?_) (fun h => ?_)) <;> try (exfalso; omega)
      | (refine Br.neg ?_)
      | (refine Br.mk (fun h => ?_) (fun h => ?_))
      | (refine And.intro rfl ?_)
      | (refine And.intro (by omega) ?_)
      | (refine ⟨_, Or.inl ⟨⟨by omega, by omega⟩, rfl⟩, ?_⟩)
      | (refine And.intro (by simp only [lens_all, its_len, zs_len]; first | done | omega) ?_)
      | (refine And.intro (Nat.le_refl _) ?_)
      | fail
    show SV.bool (decide _) = SV.bool true
    rw [decide_eq_true]
    omega

def ir_fretworklaw12_FoldLeast : IR :=
(.seq (.reg (⟨(some 4), .mv (.c (.bool false)), none⟩ :: [])) (.seq (.reg (⟨(some 12), .mv (.t 0), none⟩ ::⟨(some 13), .mv (.t 1), none⟩ ::⟨(some 14), .call (.c (.fn 31 [])) [(.t 12), (.t 13)], none⟩ ::⟨(some 5), .al [.int .i64 0, .nils], none⟩ ::⟨none, .st 2 (.t 5) (.t 14), none⟩ :: [])) (.seq (.reg (⟨(some 16), .ld 2 true (.t 5), none⟩ ::⟨(some 17), .call (.c (.fn 35 [])) [(.t 16)], none⟩ ::⟨(some 15), .mv (.t 17), none⟩ ::⟨(some 18), .ex 0 (.t 15), none⟩ ::⟨(some 19), .ex 1 (.t 15), none⟩ ::⟨(some 6), .al [.int .i64 0, .int .i64 0], none⟩ ::⟨none, .st 2 (.t 6) (.t 18), none⟩ ::⟨(some 7), .mv (.t 19), none⟩ :: [])) (.seq (.reg (⟨(some 21), .ld 2 true (.t 5), none⟩ ::⟨(some 22), .call (.c (.fn 33 [])) [(.c (.int .i64 1)), (.t 21)], none⟩ ::⟨(some 20), .mv (.t 22), none⟩ ::⟨(some 23), .ex 0 (.t 20), none⟩ ::⟨(some 24), .ex 1 (.t 20), none⟩ ::⟨(some 8), .mv (.t 23), none⟩ ::⟨(some 9), .mv (.t 24), none⟩ :: [])) (.seq (.reg (⟨(some 26), .ld 2 true (.t 5), none⟩ ::⟨(some 27), .fa 0 (.t 6), none⟩ ::⟨(some 28), .ld 1 false (.t 27), none⟩ ::⟨(some 29), .call (.c (.fn 50 [])) [(.t 26), (.t 28)], none⟩ ::⟨(some 25), .mv (.t 29), none⟩ ::⟨(some 30), .ex 0 (.t 25), none⟩ ::⟨(some 31), .ex 1 (.t 25), none⟩ ::⟨(some 10), .mv (.t 30), none⟩ ::⟨(some 11), .mv (.t 31), none⟩ :: [])) (.seq (.reg (⟨(some 32), .call (.c (.fn 37 [])) [], none⟩ ::⟨(some 33), .mv (.t 32), none⟩ ::⟨(some 34), .mv (.t 9), some (33, true)⟩ ::⟨(some 35), .bin .eql (.t 34) (.c (.int .i64 0)), some (33, true)⟩ ::⟨(some 36), .pick (.t 33) (.t 35) (.c (.bool false)), none⟩ ::⟨(some 37), .mv (.t 36), none⟩ ::⟨(some 38), .mv (.t 7), some (37, true)⟩ ::⟨(some 39), .fa 1 (.t 5), some (37, true)⟩ ::⟨(some 40), .ld 1 false (.t 39), some (37, true)⟩ ::⟨(some 41), .ln (.t 40), some (37, true)⟩ ::⟨(some 42), .bin .gtr (.t 41) (.c (.int .i64 0)), some (37, true)⟩ ::⟨(some 43), .beq false (.t 38) (.t 42), some (37, true)⟩ ::⟨(some 44), .pick (.t 37) (.t 43) (.c (.bool false)), none⟩ ::⟨(some 45), .mv (.t 44), none⟩ ::⟨(some 46), .mv (.t 7), some (45, true)⟩ ::⟨(some 47), .un .not (.t 46), some (45, true)⟩ ::⟨(some 48), .mv (.t 47), some (45, true)⟩ ::⟨(some 49), .mv (.t 8), some (48, true)⟩ ::⟨(some 50), .bin .eql (.t 49) (.c (.int .i64 4611686018427387904)), some (48, true)⟩ ::⟨(some 51), .pick (.t 48) (.t 50) (.c (.bool false)), some (45, true)⟩ ::⟨(some 52), .mv (.t 51), some (45, true)⟩ ::⟨(some 53), .mv (.t 7), some (52, false)⟩ ::⟨(some 54), .mv (.t 53), some (52, false)⟩ ::⟨(some 55), .mv (.t 8), some (54, true)⟩ ::⟨(some 56), .fa 1 (.t 6), some (54, true)⟩ ::⟨(some 57), .ld 1 false (.t 56), some (54, true)⟩ ::⟨(some 58), .bin .eql (.t 55) (.t 57), some (54, true)⟩ ::⟨(some 59), .pick (.t 54) (.t 58) (.c (.bool false)), some (52, false)⟩ ::⟨(some 60), .mv (.t 59), some (52, false)⟩ ::⟨(some 61), .mv (.t 11), some (60, true)⟩ ::⟨(some 62), .pick (.t 60) (.t 61) (.c (.bool false)), some (52, false)⟩ ::⟨(some 63), .mv (.t 62), some (52, false)⟩ ::⟨(some 64), .mv (.t 10), some (63, true)⟩ ::⟨(some 65), .mv (.t 8), some (63, true)⟩ ::⟨(some 66), .bin .eql (.t 64) (.t 65), some (63, true)⟩ ::⟨(some 67), .pick (.t 63) (.t 66) (.c (.bool false)), some (52, false)⟩ ::⟨(some 68), .pick (.t 52) (.c (.bool true)) (.t 67), some (45, true)⟩ ::⟨(some 69), .pick (.t 45) (.t 68) (.c (.bool false)), none⟩ ::⟨(some 4), .mv (.t 69), none⟩ :: [])) .ret))))))
theorem cd_fretworklaw12_FoldLeast : Code1 Try.prog 14 70 ir_fretworklaw12_FoldLeast [.t 4] := ⟨Try.call14, _, _, Try.func14, rfl, by kernel_rfl, by kernel_rfl, by kernel_rfl, by kernel_rfl⟩

set_option maxHeartbeats 8000000 in
theorem fs_FoldLeast (n : Int) (l : List (Int × Int)) (hn : 0 ≤ n ∧ n ≤ 255) (hb : Ib l) : FS Try.prog 14 [.int .u8 n, IL l] (.bool true) := by
  refine fs_of_cvc mixed cd_fretworklaw12_FoldLeast (by simp) ?_
  have ct1 := fs_Some n l hn hb
  obtain ⟨a, ea, ha, ia, la⟩ := sm_ok hn hb
  rw [ea] at ct1
  generalize n.tmod 60 = K at *
  have hred : redR 1 K a = (sumV 1 a, 0) := by
    have hi : fits (sumV 1 a) = true ∧ nar (sumV 1 a) = sumV 1 a := by
      by_cases hne : a = []
      · rw [hne]; exact zero_fits 1
      · rw [sumV_min hne]
        have := (ia _ (minI_ok hne).1).2
        exact ⟨fits_i this, nar_of this⟩
    unfold redR
    rw [ha.sl, if_pos (by decide), if_pos hi.1, hi.2]
  have c1 := fs_fLeast K a (by omega)
  rw [ha.sl] at c1
  have c2 := fs_Reduce 1 K a (by omega) ia
  rw [hred] at c2
  have c3 := fs_r9Get K a (minI a).1 (by omega)
  rw [ha.sl] at c3
  have hal := its_len a
  by_cases na : a = []
  · subst na
    have c2' : FS Try.prog 33 [.int .i64 1, VC K []] (.tup [.int .i64 4611686018427387904, .int .i64 0]) := c2
    repeat' (conv => whnf); first
      | ((refine Or.inl ⟨by rfl, _, ct1, ?_⟩))
      | ((refine Or.inl ⟨by rfl, _, c1, ?_⟩))
      | ((refine Or.inl ⟨by rfl, _, c2', ?_⟩))
      | ((refine Or.inl ⟨by rfl, _, c3, ?_⟩))
      | ((refine Or.inl ⟨by rfl, _, fs_live12, ?_⟩))
      | ((refine Br.beq (by rfl) ?_))
      | ((refine Br.bne (by rfl) ?_))
      | (refine Br.tt ?_)
      | (refine Br.ff ?_)
      | (refine Br.dec (fun h => ?_) (fun h => ?_)) <;> try (exfalso; omega)
      | (refine Br.neg ?_)
      | (refine Br.mk (fun h => ?_) (fun h => ?_))
      | (refine And.intro rfl ?_)
      | (refine And.intro (by omega) ?_)
      | (refine ⟨_, Or.inl ⟨⟨by omega, by omega⟩, rfl⟩, ?_⟩)
      | (refine And.intro (by simp only [lens_all]; first | done | omega) ?_)
      | (refine And.intro (Nat.le_refl _) ?_)
      | fail
    all_goals exact rfl
  · have hpos : 0 < a.length := List.length_pos_iff.2 na
    obtain ⟨m1, m2⟩ := minI_ok na
    rw [gt_some ha.up m1] at c3
    rw [sumV_min na] at c2
    rw [decide_eq_true hpos] at c1
    generalize minI a = m at *
    have hdec : decide ((0 : Int) < ((its a).length : Int)) = true := decide_eq_true (by omega)
    repeat' (conv => whnf); first
      | ((refine Br.beq (by rw [hdec]) ?_))
      | ((refine Or.inl ⟨by rfl, _, ct1, ?_⟩))
      | ((refine Or.inl ⟨by rfl, _, c1, ?_⟩))
      | ((refine Or.inl ⟨by rfl, _, c2, ?_⟩))
      | ((refine Or.inl ⟨by rfl, _, c3, ?_⟩))
      | ((refine Or.inl ⟨by rfl, _, fs_live12, ?_⟩))
      | ((refine Br.beq (by rfl) ?_))
      | ((refine Br.bne (by rfl) ?_))
      | (refine Br.tt ?_)
      | (refine Br.ff ?_)
      | (refine Br.dec (fun h => ?_) (fun h => ?_)) <;> try (exfalso; omega)
      | (refine Br.neg ?_)
      | (refine Br.mk (fun h => ?_) (fun h => ?_))
      | (refine And.intro rfl ?_)
      | (refine And.intro (by omega) ?_)
      | (refine ⟨_, Or.inl ⟨⟨by omega, by omega⟩, rfl⟩, ?_⟩)
      | (refine And.intro (by simp only [lens_all]; first | done | omega) ?_)
      | (refine And.intro (Nat.le_refl _) ?_)
      | fail
    all_goals first
      | exact rfl
      | (show SV.bool (decide _) = SV.bool true; simp)
      | (exfalso; omega)
end
end Go.Proofs.Ytckbagpdahhiiaa
