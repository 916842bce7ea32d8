/- What the statements call; any matrix times any vector. Some rows, and all others. -/
import Derived.Test.YtlbmjnammgffiaaE4
namespace Go.Proofs.Ytlbmjnammgffiaa
section
open Go.RowKit
attribute [local irreducible] FS FO IT HS

section
variable {r : Int} {rows cols : Int} {st col val : List Int} {n : Int} {f : List Nat} {v : List Int} {o : Bool}
theorem fs_pSumsN (hval : Zb val) (hn : I64 n) (hw : Wd f) (hf : f.length ≤ 1000000) (hv : v.length ≤ 1000000) (hvb : Zb v) :
    FS Try.prog 8 [.int .i64 r, MX rows cols st col val, DV n f v, .nils, .bool o] (SE (sumsR r (mS rows cols st col val) (dS n f v) [] o)) :=
  fs_le (fs_pSums r rows cols st col val n f v [] o hval hn hw hf hv hvb (fun x hx => by cases hx)) ⟨rfl, rfl, rfl, rfl, rfl, trivial⟩
theorem fs_r13SumsN (hval : Zb val) (hn : I64 n) (hw : Wd f) (hf : f.length ≤ 1000000) (hv : v.length ≤ 1000000) (hvb : Zb v) :
    FS Try.prog 9 [.int .i64 r, MX rows cols st col val, DV n f v, .nils, .bool o] (SE (sumsR r (mS rows cols st col val) (dS n f v) [] o)) :=
  fs_le (fs_r13Sums r rows cols st col val n f v [] o hval hn hw hf hv hvb (fun x hx => by cases hx) (by simp)) ⟨rfl, rfl, rfl, rfl, rfl, trivial⟩
theorem fs_pTimesN (hval : Zb val) (hn : I64 n) (hw : Wd f) (hf : f.length ≤ 1000000) (hv : v.length ≤ 1000000) (hvb : Zb v) :
    FS Try.prog 15 [.int .i64 r, MX rows cols st col val, DV n f v, .nils, .bool o] (VE (timesR r (mS rows cols st col val) (dS n f v) [] o)) :=
  fs_le (fs_pTimes r rows cols st col val n f v [] o hval hn hw hf hv hvb (fun x hx => by cases hx)) ⟨rfl, rfl, rfl, rfl, rfl, trivial⟩
end

theorem zbL (l : List Int) (h : (l.all fun x => decide (-9223372036854775808 ≤ x) && decide (x ≤ 9223372036854775807)) = true) : Zb l := fun x hx => by
  have := List.all_eq_true.1 h x hx
  rw [Bool.and_eq_true, decide_eq_true_eq, decide_eq_true_eq] at this
  exact this
theorem wdL (l : List Nat) (h : (l.all fun x => decide (x < 18446744073709551616)) = true) : Wd l := fun x hx => by
  have := List.all_eq_true.1 h x hx
  rwa [decide_eq_true_eq] at this

def ir_fretworklaw13_live : IR :=
(.seq (.reg (⟨(some 0), .mv (.c (.bool false)), none⟩ :: [])) (.seq (.reg (⟨(some 15), .bld [.int .i64 0, .int .i64 0, .int .i64 0] [(1, 1, (.c (.int .i64 0))), (2, 1, (.c (.int .i64 2)))], none⟩ ::⟨(some 16), .bld [.int .i64 0, .int .i64 0, .int .i64 0] [(1, 1, (.c (.int .i64 1))), (2, 1, (.c (.int .i64 3)))], none⟩ ::⟨(some 17), .bsl 2 3 [.int .i64 0, .int .i64 0, .int .i64 0] [(0, (.t 15)), (1, (.t 16))], none⟩ ::⟨(some 18), .call (.c (.fn 23 [])) [(.c (.int .i64 1)), (.c (.int .i64 1)), (.c (.int .i64 2)), (.t 17)], none⟩ ::⟨(some 14), .mv (.t 18), none⟩ ::⟨(some 19), .ex 0 (.t 14), none⟩ ::⟨(some 20), .ex 1 (.t 14), none⟩ ::⟨(some 1), .al [.int .i64 0, .int .i64 0, .nils, .nils, .nils], none⟩ ::⟨none, .st 5 (.t 1) (.t 19), none⟩ ::⟨(some 2), .mv (.t 20), none⟩ :: [])) (.seq (.reg (⟨(some 21), .bld [.int .i64 0, .int .i64 0] [(0, 1, (.c (.int .i64 0))), (1, 1, (.c (.int .i64 5)))], none⟩ ::⟨(some 22), .bld [.int .i64 0, .int .i64 0] [(0, 1, (.c (.int .i64 1))), (1, 1, (.c (.int .i64 1)))], none⟩ ::⟨(some 23), .bsl 2 2 [.int .i64 0, .int .i64 0] [(0, (.t 21)), (1, (.t 22))], none⟩ ::⟨(some 24), .bld [.int .i64 0, .nils] [(0, 1, (.c (.int .i64 2))), (1, 1, (.t 23))], none⟩ ::⟨(some 25), .call (.c (.fn 16 [])) [(.t 24)], none⟩ ::⟨(some 3), .al [.int .i64 0, .nils, .nils], none⟩ ::⟨none, .st 3 (.t 3) (.t 25), none⟩ :: [])) (.seq (.reg (⟨(some 27), .ld 5 true (.t 1), none⟩ ::⟨(some 28), .ld 3 true (.t 3), none⟩ ::⟨(some 29), .call (.c (.fn 15 [])) [(.c (.int .i64 1)), (.t 27), (.t 28), (.c (.nils)), (.c (.bool true))], none⟩ ::⟨(some 26), .mv (.t 29), none⟩ ::⟨(some 30), .ex 0 (.t 26), none⟩ ::⟨(some 31), .ex 1 (.t 26), none⟩ ::⟨(some 4), .al [.int .i64 0, .nils], none⟩ ::⟨none, .st 2 (.t 4) (.t 30), none⟩ ::⟨(some 5), .mv (.t 31), none⟩ :: [])) (.seq (.reg (⟨(some 33), .ld 5 true (.t 1), none⟩ ::⟨(some 34), .ld 3 true (.t 3), none⟩ ::⟨(some 35), .call (.c (.fn 15 [])) [(.c (.int .i64 1)), (.t 33), (.t 34), (.c (.nils)), (.c (.bool false))], none⟩ ::⟨(some 32), .mv (.t 35), none⟩ ::⟨(some 36), .ex 0 (.t 32), none⟩ ::⟨(some 37), .ex 1 (.t 32), none⟩ ::⟨(some 6), .al [.int .i64 0, .nils], none⟩ ::⟨none, .st 2 (.t 6) (.t 36), none⟩ ::⟨(some 7), .mv (.t 37), none⟩ :: [])) (.seq (.reg (⟨(some 39), .ld 5 true (.t 1), none⟩ ::⟨(some 40), .ld 3 true (.t 3), none⟩ ::⟨(some 41), .bsl 1 1 [.int .u64 0] [(0, (.c (.int .u64 1)))], none⟩ ::⟨(some 42), .call (.c (.fn 8 [])) [(.c (.int .i64 5)), (.t 39), (.t 40), (.t 41), (.c (.bool false))], none⟩ ::⟨(some 38), .mv (.t 42), none⟩ ::⟨(some 43), .ex 0 (.t 38), none⟩ ::⟨(some 44), .ex 1 (.t 38), none⟩ ::⟨(some 8), .mv (.t 43), none⟩ ::⟨(some 9), .mv (.t 44), none⟩ :: [])) (.seq (.reg (⟨(some 46), .bld [.int .i64 0, .int .u64 0] [(0, 1, (.c (.int .i64 5)))], none⟩ ::⟨(some 47), .bld [.int .i64 0, .int .i64 0, .int .u64 0] [(1, 2, (.t 46))], none⟩ ::⟨(some 48), .bsl 1 3 [.int .i64 0, .int .i64 0, .int .u64 0] [(0, (.t 47))], none⟩ ::⟨(some 49), .call (.c (.fn 24 [])) [(.c (.int .i64 5)), (.c (.int .i64 1)), (.t 48)], none⟩ ::⟨(some 45), .mv (.t 49), none⟩ ::⟨(some 50), .ex 0 (.t 45), none⟩ ::⟨(some 51), .ex 1 (.t 45), none⟩ ::⟨(some 10), .al [.int .i64 0, .nils], none⟩ ::⟨none, .st 2 (.t 10) (.t 50), none⟩ ::⟨(some 11), .mv (.t 51), none⟩ :: [])) (.seq (.reg (⟨(some 53), .ld 5 true (.t 1), none⟩ ::⟨(some 54), .bld [.int .i64 0, .nils, .nils] [], none⟩ ::⟨(some 55), .call (.c (.fn 8 [])) [(.c (.int .i64 1)), (.t 53), (.t 54), (.c (.nils)), (.c (.bool true))], none⟩ ::⟨(some 52), .mv (.t 55), none⟩ ::⟨(some 56), .ex 0 (.t 52), none⟩ ::⟨(some 57), .ex 1 (.t 52), none⟩ ::⟨(some 12), .mv (.t 56), none⟩ ::⟨(some 13), .mv (.t 57), none⟩ :: [])) (.seq (.reg (⟨(some 58), .mv (.t 5), none⟩ ::⟨(some 59), .bin .eql (.t 58) (.c (.int .i64 0)), none⟩ ::⟨(some 60), .mv (.t 59), none⟩ ::⟨(some 61), .fa 1 (.t 4), some (60, true)⟩ ::⟨(some 62), .ld 1 false (.t 61), some (60, true)⟩ ::⟨(some 63), .ln (.t 62), some (60, true)⟩ ::⟨(some 64), .bin .eql (.t 63) (.c (.int .i64 1)), some (60, true)⟩ ::⟨(some 65), .pick (.t 60) (.t 64) (.c (.bool false)), none⟩ ::⟨(some 66), .mv (.t 65), none⟩ ::⟨(some 67), .fa 1 (.t 4), some (66, true)⟩ ::⟨(some 68), .ld 1 false (.t 67), some (66, true)⟩ ::⟨(some 69), .ia 2 (.t 68) (.c (.int .i64 0)), some (66, true)⟩ ::⟨(some 70), .fa 1 (.t 69), some (66, true)⟩ ::⟨(some 71), .ld 1 false (.t 70), some (66, true)⟩ ::⟨(some 72), .bin .eql (.t 71) (.c (.int .i64 4)), some (66, true)⟩ ::⟨(some 73), .pick (.t 66) (.t 72) (.c (.bool false)), none⟩ ::⟨(some 74), .mv (.t 73), none⟩ ::⟨(some 75), .mv (.t 7), some (74, true)⟩ ::⟨(some 76), .bin .eql (.t 75) (.c (.int .i64 0)), some (74, true)⟩ ::⟨(some 77), .pick (.t 74) (.t 76) (.c (.bool false)), none⟩ ::⟨(some 78), .mv (.t 77), none⟩ ::⟨(some 79), .fa 1 (.t 6), some (78, true)⟩ ::⟨(some 80), .ld 1 false (.t 79), some (78, true)⟩ ::⟨(some 81), .ln (.t 80), some (78, true)⟩ ::⟨(some 82), .bin .eql (.t 81) (.c (.int .i64 0)), some (78, true)⟩ ::⟨(some 83), .pick (.t 78) (.t 82) (.c (.bool false)), none⟩ ::⟨(some 84), .mv (.t 83), none⟩ ::⟨(some 85), .fa 0 (.t 6), some (84, true)⟩ ::⟨(some 86), .ld 1 false (.t 85), some (84, true)⟩ ::⟨(some 87), .bin .eql (.t 86) (.c (.int .i64 1)), some (84, true)⟩ ::⟨(some 88), .pick (.t 84) (.t 87) (.c (.bool false)), none⟩ ::⟨(some 89), .mv (.t 88), none⟩ ::⟨(some 90), .mv (.t 9), some (89, true)⟩ ::⟨(some 91), .bin .eql (.t 90) (.c (.int .i64 0)), some (89, true)⟩ ::⟨(some 92), .pick (.t 89) (.t 91) (.c (.bool false)), none⟩ ::⟨(some 93), .mv (.t 92), none⟩ ::⟨(some 94), .mv (.t 8), some (93, true)⟩ ::⟨(some 95), .ln (.t 94), some (93, true)⟩ ::⟨(some 96), .bin .eql (.t 95) (.c (.int .i64 1)), some (93, true)⟩ ::⟨(some 97), .pick (.t 93) (.t 96) (.c (.bool false)), none⟩ ::⟨(some 98), .mv (.t 97), none⟩ ::⟨(some 99), .mv (.t 8), some (98, true)⟩ ::⟨(some 100), .ia 3 (.t 99) (.c (.int .i64 0)), some (98, true)⟩ ::⟨(some 101), .fa 1 (.t 100), some (98, true)⟩ ::⟨(some 102), .ld 2 true (.t 101), some (98, true)⟩ ::⟨(some 103), .bld [.int .i64 0, .int .u64 0] [(1, 1, (.c (.int .u64 13)))], some (98, true)⟩ ::⟨(some 104), .eqv false 60 (.t 102) (.t 103), some (98, true)⟩ ::⟨(some 105), .pick (.t 98) (.t 104) (.c (.bool false)), none⟩ ::⟨(some 106), .mv (.t 105), none⟩ ::⟨(some 107), .mv (.t 11), some (106, true)⟩ ::⟨(some 108), .bin .eql (.t 107) (.c (.int .i64 12)), some (106, true)⟩ ::⟨(some 109), .pick (.t 106) (.t 108) (.c (.bool false)), none⟩ ::⟨(some 110), .mv (.t 109), none⟩ ::⟨(some 111), .mv (.t 13), some (110, true)⟩ ::⟨(some 112), .bin .eql (.t 111) (.c (.int .i64 4)), some (110, true)⟩ ::⟨(some 113), .pick (.t 110) (.t 112) (.c (.bool false)), none⟩ ::⟨(some 0), .mv (.t 113), none⟩ :: [])) .ret)))))))))
theorem cd_fretworklaw13_live : Code1 Try.prog 7 114 ir_fretworklaw13_live [.t 0] := ⟨Try.call7, _, _, Try.func7, rfl, by kernel_rfl, by kernel_rfl, by kernel_rfl, by kernel_rfl⟩

set_option maxHeartbeats 8000000 in
set_option maxRecDepth 100000 in
theorem fs_live13 : FS Try.prog 7 [] (.bool true) := by
  have c1 := fs_r7Of 1 1 2 [(0, 0, 2), (0, 1, 3)] (fun x hx => by simp at hx; rcases hx with rfl | rfl <;> exact I64c rfl)
  rw [show ofM 1 1 2 [(0, 0, 2), (0, 1, 3)] = ((1, 2, [0, 2], [0, 1], [2, 3]), 0) by kernel_rfl] at c1
  have c1' : FS Try.prog 23 [.int .i64 1, .int .i64 1, .int .i64 2, .slc 3 [[.int .i64 0, .int .i64 0, .int .i64 2], [.int .i64 0, .int .i64 1, .int .i64 3]]] (.tup [MX 1 2 [0, 2] [0, 1] [2, 3], .int .i64 0]) := c1
  have c2 := fs_r10Of 2 [(0, 5), (1, 1)] (by simp)
  rw [show dV (sn 2 [(0, 5), (1, 1)]) (sl 2 [(0, 5), (1, 1)]) = DV 2 [3] [5, 1] by kernel_rfl] at c2
  have c2' : FS Try.prog 16 [.agg [.int .i64 2, .slc 2 [[.int .i64 0, .int .i64 5], [.int .i64 1, .int .i64 1]]]] (DV 2 [3] [5, 1]) := c2
  have zv : Zb [2, 3] := zbL _ (by decide)
  have zx : Zb [5, 1] := zbL _ (by decide)
  have w3 : Wd [3] := wdL _ (by decide)
  have i2 : I64 2 := I64c rfl
  have c3 := fs_pTimesN (r := 1) (rows := 1) (cols := 2) (st := [0, 2]) (col := [0, 1]) (val := [2, 3]) (n := 2) (f := [3]) (v := [5, 1]) (o := true) zv i2 w3 (by simp) (by simp) zx
  rw [show timesR 1 (mS 1 2 [0, 2] [0, 1] [2, 3]) (dS 2 [3] [5, 1]) [] true = (1, [(0, 4)], 0) by kernel_rfl] at c3
  have c3' : FS Try.prog 15 [.int .i64 1, MX 1 2 [0, 2] [0, 1] [2, 3], DV 2 [3] [5, 1], .nils, .bool true] (.tup [VC 1 [(0, 4)], .int .i64 0]) := c3
  have c4 := fs_pTimesN (r := 1) (rows := 1) (cols := 2) (st := [0, 2]) (col := [0, 1]) (val := [2, 3]) (n := 2) (f := [3]) (v := [5, 1]) (o := false) zv i2 w3 (by simp) (by simp) zx
  rw [show timesR 1 (mS 1 2 [0, 2] [0, 1] [2, 3]) (dS 2 [3] [5, 1]) [] false = (1, [], 0) by kernel_rfl] at c4
  have c4' : FS Try.prog 15 [.int .i64 1, MX 1 2 [0, 2] [0, 1] [2, 3], DV 2 [3] [5, 1], .nils, .bool false] (.tup [VC 1 [], .int .i64 0]) := c4
  have c5 := fs_pSums 5 1 2 [0, 2] [0, 1] [2, 3] 2 [3] [5, 1] [1] false zv i2 w3 (by simp) (by simp) zx (wdL _ (by decide))
  rw [show sumsR 5 (mS 1 2 [0, 2] [0, 1] [2, 3]) (dS 2 [3] [5, 1]) [1] false = ([(0, 13)], 0) by kernel_rfl] at c5
  have c5' : FS Try.prog 8 [.int .i64 5, MX 1 2 [0, 2] [0, 1] [2, 3], DV 2 [3] [5, 1], .slc 1 [[.int .u64 1]], .bool false] (.tup [SM [(0, 13)], .int .i64 0]) := c5
  have c6 := fs_pDone 5 1 [(0, 92233720368547758080)] (by simp) (fun x hx => by simp at hx; subst hx; unfold W128; omega)
  rw [show doneR 5 1 [(0, 92233720368547758080)] = (0, [], 12) by kernel_rfl] at c6
  have c6' : FS Try.prog 24 [.int .i64 5, .int .i64 1, .slc 3 [[.int .i64 0, .int .i64 5, .int .u64 0]]] (.tup [VC 0 [], .int .i64 12]) := by
    have e : SM [(0, 92233720368547758080)] = .slc 3 [[.int .i64 0, .int .i64 5, .int .u64 0]] := by kernel_rfl
    rw [e] at c6; exact c6
  have c7 := fs_pSumsN (r := 1) (rows := 1) (cols := 2) (st := [0, 2]) (col := [0, 1]) (val := [2, 3]) (n := 0) (f := []) (v := []) (o := true) zv (I64c rfl) (wdL _ (by decide)) (by simp) (by simp) (zbL _ (by decide))
  rw [show sumsR 1 (mS 1 2 [0, 2] [0, 1] [2, 3]) (dS 0 [] []) [] true = ([], 4) by kernel_rfl] at c7
  have c7' : FS Try.prog 8 [.int .i64 1, MX 1 2 [0, 2] [0, 1] [2, 3], .agg [.int .i64 0, .nils, .nils], .nils, .bool true] (.tup [SM [], .int .i64 4]) := fs_le c7 ⟨rfl, rfl, ⟨rfl, rfl, rfl, trivial⟩, rfl, rfl, trivial⟩
  have c8 := eqw false (x := 13) (y := 13) (by unfold W128; omega) (by unfold W128; omega)
  rw [show hi 13 = 0 by kernel_rfl, show lo 13 = 13 by kernel_rfl] at c8
  have c8' : EqOk Try.prog false 60 [.int .i64 (hi 13), .int .u64 (lo 13)] [.int .i64 0, .int .u64 13] true := by
    rw [show hi 13 = 0 by kernel_rfl, show lo 13 = 13 by kernel_rfl]; exact c8
  refine fs_of_cvc mixed cd_fretworklaw13_live (by simp) ?_
  repeat' (conv => whnf); first
    | ((refine Or.inl ⟨by rfl, _, c1', ?_⟩))
    | ((refine Or.inl ⟨by rfl, _, c2', ?_⟩))
    | ((refine Or.inl ⟨by rfl, _, c3', ?_⟩))
    | ((refine Or.inl ⟨by rfl, _, c4', ?_⟩))
    | ((refine Or.inl ⟨by rfl, _, c5', ?_⟩))
    | ((refine Or.inl ⟨by rfl, _, c6', ?_⟩))
    | ((refine Or.inl ⟨by rfl, _, c7', ?_⟩))
    | ((refine its_go' (x := (0, 4)) (i := 0) (by omega) rfl ?_))
    | ((refine sms_go (x := (0, 13)) (i := 0) (by omega) rfl ?_))
    | ((refine ⟨_, c8', ?_⟩))
    | ((refine Br.beq (by rfl) ?_))
    | ((refine Br.bne (by rfl) ?_))
    | ((refine And.intro (Or.inl (Nat.zero_le _)) ?_))
    | ((refine And.intro (show _ ≤ _ from Nat.le_of_ble_eq_true rfl) ?_))
    | (refine Br.tt ?_)
    | (refine Br.ff ?_)
    | (refine Br.dec (fun h => ?_) (fun h => ?_)) <;> try (exfalso; omega)
    | (refine Br.neg ?_)
    | (refine Br.mk (fun h => ?_) (fun h => ?_))
    | (refine And.intro rfl ?_)
    | (refine And.intro (by omega) ?_)
    | (refine ⟨_, Or.inl ⟨⟨by omega, by omega⟩, rfl⟩, ?_⟩)
    | (refine And.intro (by simp only [lens_all, sms_len, its_len]; first | done | omega) ?_)
    | (refine And.intro (Nat.le_refl _) ?_)
    | fail
  all_goals exact rfl

def ir_fretworklaw13_PullRaw : IR :=
(.seq (.reg (⟨(some 4), .bx (.t 1), none⟩ ::⟨(some 5), .bx (.t 2), none⟩ ::⟨(some 6), .mv (.c (.bool false)), none⟩ :: [])) (.seq (.seq (.reg (⟨(some 11), .fa 2 (.t 4), none⟩ ::⟨(some 12), .ld 1 false (.t 11), none⟩ ::⟨(some 13), .ln (.t 12), none⟩ ::⟨(some 14), .bin .gtr (.t 13) (.c (.int .i64 50)), none⟩ ::⟨(some 15), .mv (.t 14), none⟩ ::⟨(some 16), .fa 3 (.t 4), some (15, false)⟩ ::⟨(some 17), .ld 1 false (.t 16), some (15, false)⟩ ::⟨(some 18), .ln (.t 17), some (15, false)⟩ ::⟨(some 19), .bin .gtr (.t 18) (.c (.int .i64 60)), some (15, false)⟩ ::⟨(some 20), .pick (.t 15) (.c (.bool true)) (.t 19), none⟩ ::⟨(some 21), .mv (.t 20), none⟩ ::⟨(some 22), .fa 2 (.t 5), some (21, false)⟩ ::⟨(some 23), .ld 1 false (.t 22), some (21, false)⟩ ::⟨(some 24), .ln (.t 23), some (21, false)⟩ ::⟨(some 25), .bin .gtr (.t 24) (.c (.int .i64 100)), some (21, false)⟩ ::⟨(some 26), .pick (.t 21) (.c (.bool true)) (.t 25), none⟩ ::⟨(some 27), .mv (.t 26), none⟩ ::⟨(some 28), .fa 1 (.t 5), some (27, false)⟩ ::⟨(some 29), .ld 1 false (.t 28), some (27, false)⟩ ::⟨(some 30), .ln (.t 29), some (27, false)⟩ ::⟨(some 31), .bin .gtr (.t 30) (.c (.int .i64 4)), some (27, false)⟩ ::⟨(some 32), .pick (.t 27) (.c (.bool true)) (.t 31), none⟩ :: [])) (.cond (.t 32) (.seq (.reg (⟨(some 33), .call (.c (.fn 7 [])) [], none⟩ ::⟨(some 6), .mv (.t 33), none⟩ :: [])) .ret) .skip)) (.seq (.reg (⟨(some 35), .mv (.t 0), none⟩ ::⟨(some 36), .ld 5 true (.t 4), none⟩ ::⟨(some 37), .ld 3 true (.t 5), none⟩ ::⟨(some 38), .call (.c (.fn 8 [])) [(.t 35), (.t 36), (.t 37), (.c (.nils)), (.c (.bool true))], none⟩ ::⟨(some 34), .mv (.t 38), none⟩ ::⟨(some 39), .ex 0 (.t 34), none⟩ ::⟨(some 40), .ex 1 (.t 34), none⟩ ::⟨(some 7), .mv (.t 39), none⟩ ::⟨(some 8), .mv (.t 40), none⟩ :: [])) (.seq (.reg (⟨(some 42), .mv (.t 0), none⟩ ::⟨(some 43), .ld 5 true (.t 4), none⟩ ::⟨(some 44), .ld 3 true (.t 5), none⟩ ::⟨(some 45), .call (.c (.fn 9 [])) [(.t 42), (.t 43), (.t 44), (.c (.nils)), (.c (.bool true))], none⟩ ::⟨(some 41), .mv (.t 45), none⟩ ::⟨(some 46), .ex 0 (.t 41), none⟩ ::⟨(some 47), .ex 1 (.t 41), none⟩ ::⟨(some 9), .mv (.t 46), none⟩ ::⟨(some 10), .mv (.t 47), none⟩ :: [])) (.seq (.reg (⟨(some 48), .call (.c (.fn 7 [])) [], none⟩ ::⟨(some 49), .mv (.t 48), none⟩ ::⟨(some 50), .mv (.t 7), some (49, true)⟩ ::⟨(some 51), .mv (.t 9), some (49, true)⟩ ::⟨(some 52), .call (.c (.fn 10 [])) [(.t 50), (.t 51)], some (49, true)⟩ ::⟨(some 53), .pick (.t 49) (.t 52) (.c (.bool false)), none⟩ ::⟨(some 54), .mv (.t 53), none⟩ ::⟨(some 55), .mv (.t 8), some (54, true)⟩ ::⟨(some 56), .mv (.t 10), some (54, true)⟩ ::⟨(some 57), .bin .eql (.t 55) (.t 56), some (54, true)⟩ ::⟨(some 58), .pick (.t 54) (.t 57) (.c (.bool false)), none⟩ ::⟨(some 6), .mv (.t 58), none⟩ :: [])) .ret)))))
theorem cd_fretworklaw13_PullRaw : Code1 Try.prog 3 59 ir_fretworklaw13_PullRaw [.t 6] := ⟨Try.call3, _, _, Try.func3, rfl, by kernel_rfl, by kernel_rfl, by kernel_rfl, by kernel_rfl⟩

set_option maxHeartbeats 8000000 in
theorem fs_PullRaw (r rows cols : Int) (st col val : List Int) (n : Int) (f : List Nat) (v : List Int) (hval : Zb val) (hn : I64 n) (hw : Wd f) (hvb : Zb v) :
    FS Try.prog 3 [.int .i64 r, MX rows cols st col val, DV n f v] (.bool true) := by
  refine fs_of_cvc mixed cd_fretworklaw13_PullRaw (by simp) ?_
  have hsl := zs_len st
  have hcl := zs_len col
  have hvl := zs_len v
  have hfl := U_len f
  by_cases hs : st.length ≤ 50 ∧ col.length ≤ 60 ∧ v.length ≤ 100 ∧ f.length ≤ 4
  · have c1 := fs_pSumsN (r := r) (rows := rows) (cols := cols) (st := st) (col := col) (val := val) (n := n) (f := f) (v := v) (o := true) hval hn hw (by omega) (by omega) hvb
    have c2 := fs_r13SumsN (r := r) (rows := rows) (cols := cols) (st := st) (col := col) (val := val) (n := n) (f := f) (v := v) (o := true) hval hn hw (by omega) (by omega) hvb
    have hM := okM_mS rows cols st col val
    have hwS := sumsR_w (r := r) (m := mS rows cols st col val) (x := dS n f v) (g := []) (o := true) (zb_mS hval) (zb_dS hvb)
    have hlS := sumsR_len (r := r) (m := mS rows cols st col val) (x := dS n f v) (g := []) (o := true) hM.r1
    generalize sumsR r (mS rows cols st col val) (dS n f v) [] true = S at *
    obtain ⟨L, e⟩ := S
    simp only at hwS hlS
    have c1' : FS Try.prog 8 [.int .i64 r, MX rows cols st col val, DV n f v, .nils, .bool true] (.tup [SM L, .int .i64 e]) := c1
    have c2' : FS Try.prog 9 [.int .i64 r, MX rows cols st col val, DV n f v, .nils, .bool true] (.tup [SM L, .int .i64 e]) := c2
    have c3 := fs_SameSums L L (by omega) hwS hwS
    rw [decide_eq_true rfl] at c3
    repeat' (conv => whnf); first
      | ((refine Or.inl ⟨by rfl, _, c1', ?_⟩))
      | ((refine Or.inl ⟨by rfl, _, c2', ?_⟩))
      | ((refine Or.inl ⟨by rfl, _, c3, ?_⟩))
      | ((refine Or.inl ⟨by rfl, _, fs_live13, ?_⟩))
      | ((refine Br.beq (by rfl) ?_))
      | ((refine Br.bne (by rfl) ?_))
      | ((refine And.intro (Or.inl (Nat.zero_le _)) ?_))
      | ((refine And.intro (show _ ≤ _ from Nat.le_of_ble_eq_true rfl) ?_))
      | (refine Br.tt ?_)
      | (refine Br.ff ?_)
      | (refine Br.dec (fun h => ?_) (fun h => ?_)) <;> try (exfalso; omega)
      | (refine Br.neg ?_)
      | (refine Br.mk (fun h => ?_) (fun h => ?_))
      | (refine And.intro rfl ?_)
      | (refine And.intro (by omega) ?_)
      | (refine ⟨_, Or.inl ⟨⟨by omega, by omega⟩, rfl⟩, ?_⟩)
      | (refine And.intro (by simp only [lens_all, zs_len, U_len, sms_len, its_len, eds_len]; first | done | omega) ?_)
      | (refine And.intro (Nat.le_refl _) ?_)
      | fail
    all_goals
      show SV.bool (decide (e = e)) = SV.bool true
      rw [decide_eq_true rfl]
  · repeat' (conv => whnf); first
      | ((refine Or.inl ⟨by rfl, _, fs_live13, ?_⟩))
      | ((refine Br.beq (by rfl) ?_))
      | ((refine Br.bne (by rfl) ?_))
      | ((refine And.intro (Or.inl (Nat.zero_le _)) ?_))
      | ((refine And.intro (show _ ≤ _ from Nat.le_of_ble_eq_true rfl) ?_))
      | (refine Br.tt ?_)
      | (refine Br.ff ?_)
      | (refine Br.dec (fun h => ?_) (fun h => ?_)) <;> try (exfalso; omega)
      | (refine Br.neg ?_)
      | (refine Br.mk (fun h => ?_) (fun h => ?_))
      | (refine And.intro rfl ?_)
      | (refine And.intro (by omega) ?_)
      | (refine ⟨_, Or.inl ⟨⟨by omega, by omega⟩, rfl⟩, ?_⟩)
      | (refine And.intro (by simp only [lens_all, zs_len, U_len, sms_len, its_len, eds_len]; first | done | omega) ?_)
      | (refine And.intro (Nat.le_refl _) ?_)
      | fail
    all_goals exact rfl
end
section
open Go.RowKit
attribute [local irreducible] FS FO IT HS

theorem filt_at {α : Type} {p : α → Bool} : ∀ {L : List α} {k : Nat} {x : α}, L[k]? = some x → p x = true → (L.filter p)[((L.take k).filter p).length]? = some x
  | [], k, x, h, _ => by simp at h
  | y :: L, 0, x, h, hp => by
    simp at h
    subst h
    simp [hp]
  | y :: L, k + 1, x, h, hp => by
    have ih := filt_at (p := p) (L := L) (k := k) (x := x) (by simpa using h) hp
    rw [List.take_succ_cons, List.filter_cons, List.filter_cons]
    cases hy : p y with
    | true => rw [if_pos rfl, if_pos rfl, List.length_cons, List.getElem?_cons_succ]; exact ih
    | false => rw [if_neg (by simp), if_neg (by simp)]; exact ih
theorem filt_more {α : Type} {p : α → Bool} {L : List α} {k : Nat} {x : α} (h : L[k]? = some x) : ((L.take (k + 1)).filter p).length = ((L.take k).filter p).length + (if p x = true then 1 else 0) := by
  rw [List.take_add_one, h, List.filter_append, List.length_append]
  congr 1
  cases hp : p x <;> simp [hp]
theorem filt_two {α : Type} (p : α → Bool) (L : List α) : (L.filter p).length + (L.filter fun x => !p x).length = L.length := by
  induction L with
  | nil => rfl
  | cons x L ih =>
    rw [List.filter_cons, List.filter_cons]
    cases hp : p x <;> simp <;> omega
theorem sumsL_filt {R : Nat → Option Int} (q : Int → Bool) (l : List Nat) : sumsL R (l.filter fun (i : Nat) => q (i : Int)) = (sumsL R l).filter fun x => q x.1 := by
  unfold sumsL
  induction l with
  | nil => rfl
  | cons i l ih =>
    rw [List.filter_cons, List.filterMap_cons]
    cases hr : R i with
    | none =>
      simp only [Option.map_none]
      rw [← ih]
      cases hq : q (i : Int) with
      | true => rw [if_pos rfl, List.filterMap_cons, hr]; rfl
      | false => rw [if_neg (by simp)]
    | some s =>
      simp only [Option.map_some]
      rw [List.filter_cons]
      cases hq : q (i : Int) with
      | true => rw [if_pos rfl, if_pos rfl, List.filterMap_cons, hr, ih]; rfl
      | false => rw [if_neg (by simp), if_neg (by simp), ih]
theorem askL_all (n : Int) : askL n [] true = List.range n.toNat := by
  unfold askL
  refine List.filter_eq_self.2 fun i _ => ?_
  have : hasI [] (i : Int) = false := by rw [hasI_nat]; exact hasN_out (by simp)
  rw [this]; rfl
theorem rgt_R (r : Int) : isR (rgt r) = true := by
  unfold rgt isR
  split
  · rfl
  · rw [decide_eq_true (by omega), decide_eq_true (by omega)]; rfl
/-- A matrix and a vector that fit. -/
theorem sumsR_fit {r : Int} {m : Mat5} {x : Den3} {g : List Nat} {o : Bool} (hr : isR r = true) (h : x.1 = m.2.1) : sumsR r m x g o = (sumsL (fun i => rowO r (dG x.2.1 x.2.2) (rowL m.2.2.1 m.2.2.2.1 m.2.2.2.2 i)) (askL m.1 g o), 0) := by
  unfold sumsR; rw [if_pos hr, if_pos h]
theorem rowO_no {r : Int} {g : Int → Option Int} (hg : ∀ c, g c = none) : ∀ (l : List (Int × Int)), l.foldl (rowF r g) none = none
  | [] => rfl
  | x :: l => by
    show l.foldl (rowF r g) (rowF r g none x) = none
    have : rowF r g none x = none := by unfold rowF; rw [hg]
    rw [this]
    exact rowO_no hg l
theorem sumsL_no {R : Nat → Option Int} (h : ∀ i, R i = none) (l : List Nat) : sumsL R l = [] := by
  unfold sumsL
  rw [List.filterMap_eq_nil_iff]
  intro i _
  rw [h]; rfl
theorem dG_to_nil {n : Int} (h0 : 0 ≤ n) (h1 : n ≤ 4096) (c : Int) : dG (toF n []) (toL n []) c = none := by rw [dG_to (okV_nil h0 h1)]; rfl
theorem zb_fac {r a b : Int} {l : List Tri} (ha : 0 ≤ a ∧ a ≤ 255) (hb : 0 ≤ b ∧ b ≤ 255) (hl : ∀ x ∈ l, I64 x.2.2) : Zb (tkM r a b l).2.2.2.2 := fun v hv => by
  obtain ⟨n, hn, rfl⟩ := (tkM_ok ha hb hl).2.1 v hv
  exact facR_i hn
/-- A vector of values. -/
theorem tkV_V {r b : Int} {w : List (Int × Int)} (hb : 0 ≤ b ∧ b ≤ 255) (hw : Ib w) : (tkV r b w).1 = b.tmod 40 ∧ OkV (b.tmod 40) (tkV r b w).2 ∧ (∀ x ∈ (tkV r b w).2, ∃ n, I64 n ∧ x.2 = valR (rgt r) n) ∧ (tkV r b w).2.length ≤ 60 := by
  obtain ⟨A, e1, e2, hA, iA, lA⟩ := tkV_ok (r := r) hb hw
  rw [e2]
  refine ⟨e1, ⟨hA.n0, hA.n1, ?_, fun x hx => ?_⟩, fun x hx => ?_, by simpa using lA⟩
  · exact List.pairwise_map.2 hA.up
  · obtain ⟨y, hy, rfl⟩ := List.mem_map.1 hx
    exact hA.lo y hy
  · obtain ⟨y, hy, rfl⟩ := List.mem_map.1 hx
    exact ⟨y.2, (iA y hy).2, rfl⟩
theorem zb_toL {n : Int} {l : List (Int × Int)} (h : ∀ x ∈ l, I64 x.2) : Zb (toL n l) := fun x hx => by
  obtain ⟨i, _, rfl⟩ := List.mem_map.1 hx
  cases hg : gt l (i : Int) with
  | none => exact I0
  | some v => exact h _ (gt_mem hg)
end
end Go.Proofs.Ytlbmjnammgffiaa
