/- The laws on sets of places: what they call. -/
import Derived.Test.YtefciekodhpefaaFj
namespace Go.Proofs.Ytefciekodhpefaa
open Go.RowKit
attribute [local irreducible] FS FO IT HS

def ir_fretworklaw03_few : IR :=
(.seq
 (.reg (⟨(some 2), .mv (.c (.nils)), none⟩ ::
   []))
 (.seq
  (.seq
   (.reg (⟨(some 3), .mv (.t 0), none⟩ ::
     ⟨(some 4), .ln (.t 3), none⟩ ::
     ⟨(some 5), .bin .gtr (.t 4) (.c (.int .i64 8)), none⟩ ::
     []))
   (.cond (.t 5)
    (.reg (⟨(some 6), .mv (.t 0), none⟩ ::
      ⟨(some 7), .sl 1 (.t 6) none (some (.c (.int .i64 8))) none, none⟩ ::
      ⟨(some 0), .mv (.t 7), none⟩ ::
      []))
    .skip))
  (.seq
   (.reg (⟨(some 8), .mv (.t 0), none⟩ ::
     ⟨(some 2), .mv (.t 8), none⟩ ::
     []))
   .ret)))
theorem cd_fretworklaw03_few : Code1 Try.prog 10 9 ir_fretworklaw03_few [.t 2] := ⟨Try.call10, _, _, Try.func10, rfl, by kernel_rfl, by kernel_rfl, by kernel_rfl, by kernel_rfl⟩

theorem fs_few (ws : List Nat) : FS Try.prog 10 [U ws] (U (ws.take 8)) := by
  refine fs_of_cvc mixed cd_fretworklaw03_few (by simp) ?_
  have hul := U_len ws
  repeat' (conv => whnf); first
    | ((refine fun x hx => ?_); (obtain rfl := U_at hx; clear hx))
    | ((refine fun x hx => ?_); (obtain rfl := zs_at hx; clear hx))
    | ((refine fun x hx => ?_); (obtain rfl := ints_at hx; clear hx))
    | ((refine And.intro rfl (And.intro (by simp only [U_len, tab_len, List.length_set]; omega) ?_)))
    | ((refine ar_tdiv (by omega) (by omega) (by omega) ?_))
    | (refine Br.tt ?_)
    | (refine Br.ff ?_)
    | (refine Br.dec (fun h => ?_) (fun h => ?_)) <;> try (exfalso; omega)
    | (refine Br.neg ?_)
    | (refine Br.mk (fun h => ?_) (fun h => ?_))
    | (refine And.intro rfl ?_)
    | (refine And.intro (by omega) ?_)
    | (refine ⟨_, Or.inl ⟨⟨by omega, by omega⟩, rfl⟩, ?_⟩)
    | (refine And.intro (by simp only [List.length_map, List.length_replicate, List.length_set, List.length_append, List.length_take, List.length_drop, List.length_cons, List.length_nil, U_len, tab_len, ints_len, zs_len]; first | done | omega) ?_)
    | (refine And.intro (Nat.le_refl _) ?_)
    | fail
  · show SV.slc 1 (((uw ws).take 8).drop 0) = _
    rw [List.drop_zero, uw_take]
  · show SV.slc 1 (uw ws) = U (ws.take 8)
    rw [List.take_of_length_le (by omega)]; rfl

/-- Those from a place on, up to another one; none. -/
def partU (ws : List Nat) (a b : Int) : List Nat := if b ≤ max a 0 then [] else partN ws (max a 0) b
theorem part_le (ws : List Nat) (a b : Int) : leV 0 (if b ≤ max a 0 then .nils else U (partN ws (max a 0) b)) (U (partU ws a b)) := by
  unfold partU
  split
  · exact (rfl : ([] : List (List SV)) = [])
  · exact rfl
theorem fs_PartU (ws : List Nat) (hw : Wd ws) (hl : ws.length ≤ 1000000) (a b : Int) (ha0 : -9223372036854775808 ≤ a) (ha1 : a ≤ 9223372036854775807) (hb0 : -9223372036854775808 ≤ b) (hb1 : b ≤ 9223372036854775807) :
    FS Try.prog 41 [U ws, .int .i64 a, .int .i64 b] (U (partU ws a b)) := fs_res (fs_Part ws hw hl a b ha0 ha1 hb0 hb1) (part_le ws a b)
theorem fs_rPartU (ws : List Nat) (hw : Wd ws) (hl : ws.length ≤ 1000000) (a b : Int) (ha0 : -9223372036854775808 ≤ a) (ha1 : a ≤ 9223372036854775807) (hb0 : -9223372036854775808 ≤ b) (hb1 : b ≤ 9223372036854775807) :
    FS Try.prog 42 [U ws, .int .i64 a, .int .i64 b] (U (partU ws a b)) := fs_res (fs_rPart ws hw hl a b ha0 ha1 hb0 hb1) (part_le ws a b)
theorem wd_partU {ws : List Nat} (a b : Int) : Wd (partU ws a b) := by
  unfold partU; split
  · intro x hx; simp at hx
  · exact puts_wd _ _ _ (wd_zero _)
theorem partU_len (ws : List Nat) (a b : Int) : (partU ws a b).length ≤ 64 := by
  unfold partU; split
  · simp
  · rw [partN, puts_len, List.length_replicate]; unfold wordsI; omega

/-- A few words. -/
def F0 : List Nat := [32, 1]
theorem wd_F0 : Wd F0 := by intro x hx; simp [F0] at hx; omega
theorem cnt_of {ws : List Nat} (n : Nat) (hw : Wd ws) (h : ((List.range (64 * ws.length)).filter (hasN ws)).length = n) : FS Try.prog 26 [U ws] (.int .i64 (n : Int)) ∨ 1000000 < ws.length := by
  by_cases hl : ws.length ≤ 1000000
  · have := fs_Count ws hw hl
    rw [count_words ws hw, h] at this
    exact .inl this
  · exact .inr (by omega)

def ir_fretworklaw03_live : IR :=
(.seq
 (.reg (⟨(some 0), .mv (.c (.bool false)), none⟩ ::
   []))
 (.seq
  (.reg (⟨(some 2), .bsl 4 1 [.int .i64 0] [(0, (.c (.int .i64 5))), (1, (.c (.int .i64 64))), (2, (.c (.int .i64 5))), (3, (.c (.int .i64 70)))], none⟩ ::
    ⟨(some 3), .call (.c (.fn 15 [])) [(.c (.int .i64 70)), (.t 2)], none⟩ ::
    ⟨(some 1), .mv (.t 3), none⟩ ::
    []))
  (.seq
   (.reg (⟨(some 4), .call (.c (.fn 13 [])) [(.c (.int .i64 70))], none⟩ ::
     ⟨(some 5), .ln (.t 4), none⟩ ::
     ⟨(some 6), .bin .eql (.t 5) (.c (.int .i64 2)), none⟩ ::
     ⟨(some 7), .mv (.t 6), none⟩ ::
     ⟨(some 8), .mv (.t 1), some (7, true)⟩ ::
     ⟨(some 9), .call (.c (.fn 32 [])) [(.t 8)], some (7, true)⟩ ::
     ⟨(some 10), .bsl 2 1 [.int .i64 0] [(0, (.c (.int .i64 5))), (1, (.c (.int .i64 64)))], some (7, true)⟩ ::
     ⟨(some 11), .call (.c (.fn 31 [])) [(.t 9), (.t 10)], some (7, true)⟩ ::
     ⟨(some 12), .pick (.t 7) (.t 11) (.c (.bool false)), none⟩ ::
     ⟨(some 13), .mv (.t 12), none⟩ ::
     ⟨(some 14), .mv (.t 1), some (13, true)⟩ ::
     ⟨(some 15), .call (.c (.fn 29 [])) [(.t 14), (.c (.int .i64 6))], some (13, true)⟩ ::
     ⟨(some 16), .bin .eql (.t 15) (.c (.int .i64 64)), some (13, true)⟩ ::
     ⟨(some 17), .pick (.t 13) (.t 16) (.c (.bool false)), none⟩ ::
     ⟨(some 18), .mv (.t 17), none⟩ ::
     ⟨(some 19), .mv (.t 1), some (18, true)⟩ ::
     ⟨(some 20), .call (.c (.fn 29 [])) [(.t 19), (.c (.int .i64 65))], some (18, true)⟩ ::
     ⟨(some 21), .bin .eql (.t 20) (.c (.int .i64 (-1))), some (18, true)⟩ ::
     ⟨(some 22), .pick (.t 18) (.t 21) (.c (.bool false)), none⟩ ::
     ⟨(some 23), .mv (.t 22), none⟩ ::
     ⟨(some 24), .mv (.t 1), some (23, true)⟩ ::
     ⟨(some 25), .call (.c (.fn 27 [])) [(.t 24), (.c (.int .i64 64))], some (23, true)⟩ ::
     ⟨(some 26), .bin .eql (.t 25) (.c (.int .i64 1)), some (23, true)⟩ ::
     ⟨(some 27), .pick (.t 23) (.t 26) (.c (.bool false)), none⟩ ::
     ⟨(some 28), .mv (.t 27), none⟩ ::
     ⟨(some 29), .mv (.t 1), some (28, true)⟩ ::
     ⟨(some 30), .call (.c (.fn 26 [])) [(.t 29)], some (28, true)⟩ ::
     ⟨(some 31), .bin .eql (.t 30) (.c (.int .i64 2)), some (28, true)⟩ ::
     ⟨(some 32), .pick (.t 28) (.t 31) (.c (.bool false)), none⟩ ::
     ⟨(some 33), .mv (.t 32), none⟩ ::
     ⟨(some 34), .mv (.t 1), some (33, true)⟩ ::
     ⟨(some 35), .call (.c (.fn 19 [])) [(.t 34), (.c (.int .i64 5))], some (33, true)⟩ ::
     ⟨(some 36), .pick (.t 33) (.t 35) (.c (.bool false)), none⟩ ::
     ⟨(some 37), .mv (.t 36), none⟩ ::
     ⟨(some 38), .mv (.t 1), some (37, true)⟩ ::
     ⟨(some 39), .call (.c (.fn 23 [])) [(.t 38), (.c (.int .i64 5))], some (37, true)⟩ ::
     ⟨(some 40), .call (.c (.fn 19 [])) [(.t 39), (.c (.int .i64 5))], some (37, true)⟩ ::
     ⟨(some 41), .un .not (.t 40), some (37, true)⟩ ::
     ⟨(some 42), .pick (.t 37) (.t 41) (.c (.bool false)), none⟩ ::
     ⟨(some 43), .mv (.t 42), none⟩ ::
     ⟨(some 44), .mv (.t 1), some (43, true)⟩ ::
     ⟨(some 45), .call (.c (.fn 17 [])) [(.t 44), (.c (.int .i64 70))], some (43, true)⟩ ::
     ⟨(some 46), .pick (.t 43) (.t 45) (.c (.bool false)), none⟩ ::
     ⟨(some 47), .mv (.t 46), none⟩ ::
     ⟨(some 48), .mv (.t 1), some (47, true)⟩ ::
     ⟨(some 49), .call (.c (.fn 17 [])) [(.t 48), (.c (.int .i64 64))], some (47, true)⟩ ::
     ⟨(some 50), .un .not (.t 49), some (47, true)⟩ ::
     ⟨(some 51), .pick (.t 47) (.t 50) (.c (.bool false)), none⟩ ::
     ⟨(some 52), .mv (.t 51), none⟩ ::
     ⟨(some 53), .mv (.t 1), some (52, true)⟩ ::
     ⟨(some 54), .call (.c (.fn 39 [])) [(.t 53), (.c (.int .i64 70))], some (52, true)⟩ ::
     ⟨(some 55), .call (.c (.fn 26 [])) [(.t 54)], some (52, true)⟩ ::
     ⟨(some 56), .bin .eql (.t 55) (.c (.int .i64 68)), some (52, true)⟩ ::
     ⟨(some 57), .pick (.t 52) (.t 56) (.c (.bool false)), none⟩ ::
     ⟨(some 58), .mv (.t 57), none⟩ ::
     ⟨(some 59), .mv (.t 1), some (58, true)⟩ ::
     ⟨(some 60), .call (.c (.fn 41 [])) [(.t 59), (.c (.int .i64 60)), (.c (.int .i64 70))], some (58, true)⟩ ::
     ⟨(some 61), .call (.c (.fn 19 [])) [(.t 60), (.c (.int .i64 4))], some (58, true)⟩ ::
     ⟨(some 62), .pick (.t 58) (.t 61) (.c (.bool false)), none⟩ ::
     ⟨(some 63), .mv (.t 62), none⟩ ::
     ⟨(some 64), .mv (.t 1), some (63, true)⟩ ::
     ⟨(some 65), .call (.c (.fn 21 [])) [(.t 64), (.c (.int .i64 6))], some (63, true)⟩ ::
     ⟨(some 66), .call (.c (.fn 26 [])) [(.t 65)], some (63, true)⟩ ::
     ⟨(some 67), .bin .eql (.t 66) (.c (.int .i64 3)), some (63, true)⟩ ::
     ⟨(some 68), .pick (.t 63) (.t 67) (.c (.bool false)), none⟩ ::
     ⟨(some 69), .mv (.t 68), none⟩ ::
     ⟨(some 70), .mv (.t 1), some (69, true)⟩ ::
     ⟨(some 71), .mv (.t 1), some (69, true)⟩ ::
     ⟨(some 72), .call (.c (.fn 37 [])) [(.t 70), (.t 71)], some (69, true)⟩ ::
     ⟨(some 73), .call (.c (.fn 26 [])) [(.t 72)], some (69, true)⟩ ::
     ⟨(some 74), .bin .eql (.t 73) (.c (.int .i64 0)), some (69, true)⟩ ::
     ⟨(some 75), .pick (.t 69) (.t 74) (.c (.bool false)), none⟩ ::
     ⟨(some 76), .mv (.t 75), none⟩ ::
     ⟨(some 77), .mv (.t 1), some (76, true)⟩ ::
     ⟨(some 78), .mv (.t 1), some (76, true)⟩ ::
     ⟨(some 79), .call (.c (.fn 35 [])) [(.t 77), (.t 78)], some (76, true)⟩ ::
     ⟨(some 80), .call (.c (.fn 26 [])) [(.t 79)], some (76, true)⟩ ::
     ⟨(some 81), .bin .eql (.t 80) (.c (.int .i64 2)), some (76, true)⟩ ::
     ⟨(some 82), .pick (.t 76) (.t 81) (.c (.bool false)), none⟩ ::
     ⟨(some 83), .mv (.t 82), none⟩ ::
     ⟨(some 84), .mv (.t 1), some (83, true)⟩ ::
     ⟨(some 85), .mv (.t 1), some (83, true)⟩ ::
     ⟨(some 86), .call (.c (.fn 33 [])) [(.t 84), (.t 85)], some (83, true)⟩ ::
     ⟨(some 87), .call (.c (.fn 26 [])) [(.t 86)], some (83, true)⟩ ::
     ⟨(some 88), .bin .eql (.t 87) (.c (.int .i64 2)), some (83, true)⟩ ::
     ⟨(some 89), .pick (.t 83) (.t 88) (.c (.bool false)), none⟩ ::
     ⟨(some 0), .mv (.t 89), none⟩ ::
     []))
   .ret)))
theorem cd_fretworklaw03_live : Code1 Try.prog 11 90 ir_fretworklaw03_live [.t 0] := ⟨Try.call11, _, _, Try.func11, rfl, by kernel_rfl, by kernel_rfl, by kernel_rfl, by kernel_rfl⟩

set_option maxHeartbeats 4000000 in
theorem fs_live : FS Try.prog 11 [] (.bool true) := by
  have b0 : bits F0 = [5, 64] := by rw [bits_eq wd_F0]; kernel_rfl
  have c1 : FS Try.prog 15 [.int .i64 70, Z [5, 64, 5, 70]] (U F0) := by
    have := fs_Of 70 (by omega) (by omega) [5, 64, 5, 70] (by simp) (by intro x hx; simp at hx; omega)
    rwa [show ofN 70 [5, 64, 5, 70] = F0 by kernel_rfl] at this
  have c2 := fs_New 70 (by omega) (by omega)
  rw [show zeroW 70 = [0, 0] by kernel_rfl] at c2
  have c3 := fs_List F0 wd_F0 (by decide)
  rw [b0, I_eq] at c3
  have c4 := fs_SameInts [5, 64] [5, 64] (by decide)
  have c5 := fs_Next F0 wd_F0 (by decide) 6
  rw [show nextI F0 6 = 64 by rw [nextI, b0]; kernel_rfl] at c5
  have c6 := fs_Next F0 wd_F0 (by decide) 65
  rw [show nextI F0 65 = -1 by rw [nextI, b0]; kernel_rfl] at c6
  have c7 := fs_Rank F0 wd_F0 (by decide) 64 (by omega)
  rw [rankC_eq wd_F0, show rankN F0 64 = 1 by rw [rankN, b0]; kernel_rfl] at c7
  have c8 := (cnt_of (ws := F0) 2 wd_F0 (by kernel_rfl)).resolve_right (by decide)
  have c9 := fs_Has F0 wd_F0 5 (by omega)
  rw [show hasI F0 5 = true by kernel_rfl] at c9
  have c10 := fs_Drop F0 wd_F0 (by decide) 5 (by omega)
  rw [show turn F0 5 natAndNot = [0, 1] by kernel_rfl] at c10
  have w10 : Wd [0, 1] := by intro x hx; simp at hx; omega
  have c11 := fs_Has [0, 1] w10 5 (by omega)
  rw [show hasI [0, 1] 5 = false by kernel_rfl] at c11
  have c12 := fs_Right F0 wd_F0 (by decide) 70 (by omega) (by omega)
  rw [show nextI F0 70 = -1 by rw [nextI, b0]; kernel_rfl, show (decide (0 ≤ (70 : Int)) && (decide ((70 : Int) ≤ 4096) && (decide ((F0.length : Int) = wordsI 70) && decide ((-1 : Int) < 0)))) = true by kernel_rfl] at c12
  have c13 := fs_Right F0 wd_F0 (by decide) 64 (by omega) (by omega)
  rw [show nextI F0 64 = 64 by rw [nextI, b0]; kernel_rfl, show (decide (0 ≤ (64 : Int)) && (decide ((64 : Int) ≤ 4096) && (decide ((F0.length : Int) = wordsI 64) && decide ((64 : Int) < 0)))) = false by kernel_rfl] at c13
  have c14 := fs_Flip F0 wd_F0 (by decide) 70 (by omega) (by omega)
  have c15 := (cnt_of (ws := flipN F0 70) 68 (wd_flipN _ _) (by kernel_rfl)).resolve_right (by decide)
  have c16 := fs_PartU F0 wd_F0 (by decide) 60 70 (by omega) (by omega) (by omega) (by omega)
  rw [show partU F0 60 70 = [16] by
    have : partN F0 60 70 = [16] := by rw [partN, b0]; kernel_rfl
    rw [partU, if_neg (by omega)]; exact this] at c16
  have w16 : Wd [16] := by intro x hx; simp at hx; omega
  have c17 := fs_Has [16] w16 4 (by omega)
  rw [show hasI [16] 4 = true by kernel_rfl] at c17
  have c18 := fs_Put F0 wd_F0 (by decide) 6 (by omega)
  have w18 : Wd (turn F0 6 (· ||| ·)) := wd_turn wd_F0 (fun _ _ => or_lt) _
  have c19 := (cnt_of (ws := turn F0 6 (· ||| ·)) 3 w18 (by kernel_rfl)).resolve_right (by decide)
  have c20 := fs_Minus F0 F0 wd_F0 wd_F0 (by decide) (by decide)
  have c21 := (cnt_of (ws := joinM F0 F0) 0 (wd_joinM wd_F0) (by kernel_rfl)).resolve_right (by decide)
  have c22 := fs_Both F0 F0 wd_F0 wd_F0 (by decide) (by decide)
  have c23 := (cnt_of (ws := joinB F0 F0) 2 (wd_joinB wd_F0) (by kernel_rfl)).resolve_right (by decide)
  have c24 := fs_Union F0 F0 wd_F0 wd_F0 (by decide) (by decide)
  have c25 := (cnt_of (ws := joinU F0 F0) 2 (wd_joinU wd_F0 wd_F0) (by kernel_rfl)).resolve_right (by decide)
  rw [decide_eq_true (rfl : ([5, 64] : List Int) = [5, 64])] at c4
  refine fs_of_cvc mixed cd_fretworklaw03_live (by simp) ?_
  repeat' (conv => whnf); first
    | ((refine Or.inl ⟨by rfl, _, c1, ?_⟩))
    | ((refine Or.inl ⟨by rfl, _, c2, ?_⟩))
    | ((refine Or.inl ⟨by rfl, _, c3, ?_⟩))
    | ((refine Or.inl ⟨by rfl, _, c4, ?_⟩))
    | ((refine Or.inl ⟨by rfl, _, c5, ?_⟩))
    | ((refine Or.inl ⟨by rfl, _, c6, ?_⟩))
    | ((refine Or.inl ⟨by rfl, _, c7, ?_⟩))
    | ((refine Or.inl ⟨by rfl, _, c8, ?_⟩))
    | ((refine Or.inl ⟨by rfl, _, c9, ?_⟩))
    | ((refine Or.inl ⟨by rfl, _, c10, ?_⟩))
    | ((refine Or.inl ⟨by rfl, _, c11, ?_⟩))
    | ((refine Or.inl ⟨by rfl, _, c12, ?_⟩))
    | ((refine Or.inl ⟨by rfl, _, c13, ?_⟩))
    | ((refine Or.inl ⟨by rfl, _, c14, ?_⟩))
    | ((refine Or.inl ⟨by rfl, _, c15, ?_⟩))
    | ((refine Or.inl ⟨by rfl, _, c16, ?_⟩))
    | ((refine Or.inl ⟨by rfl, _, c17, ?_⟩))
    | ((refine Or.inl ⟨by rfl, _, c18, ?_⟩))
    | ((refine Or.inl ⟨by rfl, _, c19, ?_⟩))
    | ((refine Or.inl ⟨by rfl, _, c20, ?_⟩))
    | ((refine Or.inl ⟨by rfl, _, c21, ?_⟩))
    | ((refine Or.inl ⟨by rfl, _, c22, ?_⟩))
    | ((refine Or.inl ⟨by rfl, _, c23, ?_⟩))
    | ((refine Or.inl ⟨by rfl, _, c24, ?_⟩))
    | ((refine Or.inl ⟨by rfl, _, c25, ?_⟩))
    | ((refine fun x hx => ?_); (obtain rfl := U_at hx; clear hx))
    | ((refine fun x hx => ?_); (obtain rfl := zs_at hx; clear hx))
    | ((refine fun x hx => ?_); (obtain rfl := ints_at hx; clear hx))
    | ((refine And.intro rfl (And.intro (by simp only [U_len, tab_len, List.length_set]; omega) ?_)))
    | ((refine ar_tdiv (by omega) (by omega) (by omega) ?_))
    | (refine Br.tt ?_)
    | (refine Br.ff ?_)
    | (refine Br.dec (fun h => ?_) (fun h => ?_)) <;> try (exfalso; omega)
    | (refine Br.neg ?_)
    | (refine Br.mk (fun h => ?_) (fun h => ?_))
    | (refine And.intro rfl ?_)
    | (refine And.intro (by omega) ?_)
    | (refine ⟨_, Or.inl ⟨⟨by omega, by omega⟩, rfl⟩, ?_⟩)
    | (refine And.intro (by simp only [List.length_map, List.length_replicate, List.length_set, List.length_append, List.length_take, List.length_drop, List.length_cons, List.length_nil, U_len, tab_len, ints_len, zs_len]; first | done | omega) ?_)
    | (refine And.intro (Nat.le_refl _) ?_)
    | fail
  show SV.bool (decide (((2 : Nat) : Int) = 2)) = SV.bool true
  rfl

end Go.Proofs.Ytefciekodhpefaa
