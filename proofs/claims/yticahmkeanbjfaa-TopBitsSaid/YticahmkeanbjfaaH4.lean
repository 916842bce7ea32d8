/- A set's words, written and read, are the set: the law TopBits. -/
import Derived.Test.YticahmkeanbjfaaH3
namespace Go.Proofs.Yticahmkeanbjfaa
section
open Go.RowKit
attribute [local irreducible] FS FO IT HS

theorem frz_own1 {H : List Blk} {F : List SV → Prop} {k wd n : Nat} {xs : List (List SV)} {rest : List SV} (hk : H[k]? = some (.arr wd xs)) (hn : n = xs.length) (hp : SV.pure.pureL rest = true) (h : F (.slc wd xs :: rest)) : frzs (frzK 4 H) (.osl k wd 0 n :: rest) F := by
  show match H[k]? with
    | some (.arr wd' xs) => wd' = wd ∧ 0 + n ≤ xs.length ∧ frzs (frzK 4 H) rest fun ys => F (.slc wd ((xs.drop 0).take n) :: ys)
    | _ => False
  rw [hk]
  refine ⟨rfl, by omega, frzs_pure (frz_pure 4) rest _ hp ?_⟩
  rw [List.drop_zero, hn, List.take_length]
  exact h
theorem open_loose (l : List Nat) (n : Nat) : ∀ b ∈ [Blk.arr 1 (bs l), .vars [.osl 0 1 0 n, .int .i64 0, .int .i64 0, .int .i64 0]], Blk.loose b := fun b hb => by
  rcases List.mem_cons.1 hb with rfl | hb
  · exact bs_loose l _ (by simp)
  · rw [List.mem_singleton.1 hb]; rfl
theorem zs_at2 {m : List Int} {j : Nat} {x : Int} (h : m[j]? = some x) : (zs m)[j]? = some [.int .i64 x] := by
  unfold zs
  rw [List.getElem?_map, h]; rfl
theorem tmod300 {n : Int} (h : 0 ≤ n) : 0 ≤ n.tmod 300 ∧ n.tmod 300 < 300 := by
  rw [Int.tmod_eq_emod_of_nonneg h]
  omega

def ir_fretworktop_TopBits : IR :=
(.seq (.reg (⟨(some 4), .mv (.c (.bool false)), none⟩ :: [])) (.seq (.reg (⟨(some 13), .mv (.t 0), none⟩ ::⟨(some 14), .cv .i64 (.t 13), none⟩ ::⟨(some 15), .bin .rem (.t 14) (.c (.int .i64 300)), none⟩ ::⟨(some 5), .mv (.t 15), none⟩ :: [])) (.seq (.seq (.reg (⟨(some 16), .mv (.t 1), none⟩ ::⟨(some 17), .ln (.t 16), none⟩ ::⟨(some 18), .bin .gtr (.t 17) (.c (.int .i64 50)), none⟩ :: [])) (.cond (.t 18) (.reg (⟨(some 19), .mv (.t 1), none⟩ ::⟨(some 20), .sl 1 (.t 19) none (some (.c (.int .i64 50))) none, none⟩ ::⟨(some 1), .mv (.t 20), none⟩ :: [])) .skip)) (.seq (.reg (⟨(some 21), .mv (.t 5), none⟩ ::⟨(some 22), .mv (.t 1), none⟩ ::⟨(some 23), .call (.c (.fn 4 [])) [(.t 21), (.t 22)], none⟩ ::⟨(some 6), .mv (.t 23), none⟩ :: [])) (.seq (.reg (⟨(some 7), .mv (.c (.nils)), none⟩ :: [])) (.seq (.seq (.reg (⟨(some 8), .mv (.c (.int .i64 0)), none⟩ :: [])) (.block 0 (.loop (.seq (.seq (.reg (⟨(some 24), .mv (.t 8), none⟩ ::⟨(some 25), .mv (.t 6), none⟩ ::⟨(some 26), .ln (.t 25), none⟩ ::⟨(some 27), .bin .lss (.t 24) (.t 26), none⟩ :: [])) (.cond (.t 27) .skip (.exit 0))) (.seq (.block 1 (.reg (⟨(some 30), .mv (.t 7), none⟩ ::⟨(some 31), .mv (.t 6), none⟩ ::⟨(some 32), .mv (.t 8), none⟩ ::⟨(some 33), .ia 1 (.t 31) (.t 32), none⟩ ::⟨(some 34), .ld 1 false (.t 33), none⟩ ::⟨(some 35), .cv .i64 (.t 34), none⟩ ::⟨(some 36), .call (.c (.fn 5 [])) [(.t 35)], none⟩ ::⟨(some 37), .ap 1 1 (.t 30) (.t 36), none⟩ ::⟨(some 7), .mv (.t 37), none⟩ :: []))) (.reg (⟨(some 28), .mv (.t 8), none⟩ ::⟨(some 29), .bin .add (.t 28) (.c (.int .i64 1)), none⟩ ::⟨(some 8), .mv (.t 29), none⟩ :: []))))))) (.seq (.reg (⟨(some 38), .mv (.t 7), none⟩ ::⟨(some 39), .call (.c (.fn 6 [])) [(.t 38)], none⟩ ::⟨(some 9), .mv (.t 39), none⟩ :: [])) (.seq (.reg (⟨(some 10), .mv (.c (.nils)), none⟩ :: [])) (.seq (.seq (.reg (⟨(some 11), .mv (.c (.int .i64 0)), none⟩ :: [])) (.block 2 (.loop (.seq (.seq (.reg (⟨(some 40), .mv (.t 11), none⟩ ::⟨(some 41), .mv (.t 6), none⟩ ::⟨(some 42), .ln (.t 41), none⟩ ::⟨(some 43), .bin .lss (.t 40) (.t 42), none⟩ :: [])) (.cond (.t 43) .skip (.exit 2))) (.seq (.block 3 (.reg (⟨(some 46), .mv (.t 10), none⟩ ::⟨(some 47), .mv (.t 9), none⟩ ::⟨(some 48), .call (.c (.fn 7 [])) [(.t 47)], none⟩ ::⟨(some 49), .cv .u64 (.t 48), none⟩ ::⟨(some 50), .bsl 1 1 [.int .u64 0] [(0, (.t 49))], none⟩ ::⟨(some 51), .ap 1 8 (.t 46) (.t 50), none⟩ ::⟨(some 10), .mv (.t 51), none⟩ :: []))) (.reg (⟨(some 44), .mv (.t 11), none⟩ ::⟨(some 45), .bin .add (.t 44) (.c (.int .i64 1)), none⟩ ::⟨(some 11), .mv (.t 45), none⟩ :: []))))))) (.seq (.seq (.reg (⟨(some 12), .mv (.c (.int .i64 0)), none⟩ :: [])) (.block 4 (.loop (.seq (.seq (.reg (⟨(some 52), .mv (.t 12), none⟩ ::⟨(some 53), .mv (.t 1), none⟩ ::⟨(some 54), .ln (.t 53), none⟩ ::⟨(some 55), .bin .lss (.t 52) (.t 54), none⟩ :: [])) (.cond (.t 55) .skip (.exit 4))) (.seq (.block 5 (.seq (.draw (⟨(some 58), .mv (.t 10), none⟩ ::⟨(some 59), .mv (.t 1), none⟩ ::⟨(some 60), .mv (.t 12), none⟩ ::⟨(some 61), .ia 1 (.t 59) (.t 60), none⟩ ::⟨(some 62), .ld 1 false (.t 61), none⟩ ::⟨(some 63), .call (.c (.fn 8 [])) [(.t 58), (.t 62)], none⟩ ::⟨(some 64), .mv (.t 1), none⟩ ::⟨(some 65), .mv (.t 12), none⟩ ::⟨(some 66), .ia 1 (.t 64) (.t 65), none⟩ ::⟨(some 67), .ld 1 false (.t 66), none⟩ ::⟨(some 68), .bin .geq (.t 67) (.c (.int .i64 0)), none⟩ ::⟨(some 69), .mv (.t 68), none⟩ ::⟨(some 70), .mv (.t 1), some (69, true)⟩ ::⟨(some 71), .mv (.t 12), some (69, true)⟩ ::⟨(some 72), .ia 1 (.t 70) (.t 71), some (69, true)⟩ ::⟨(some 73), .ld 1 false (.t 72), some (69, true)⟩ ::⟨(some 74), .mv (.t 5), some (69, true)⟩ :: []) (⟨(some 75), .bin .lss (.t 73) (.t 74), some (69, true)⟩ ::⟨(some 76), .pick (.t 69) (.t 75) (.c (.bool false)), none⟩ ::⟨(some 77), .beq true (.t 63) (.t 76), none⟩ :: [])) (.cond (.t 77) (.seq (.reg (⟨(some 4), .mv (.c (.bool false)), none⟩ :: [])) .ret) .skip))) (.reg (⟨(some 56), .mv (.t 12), none⟩ ::⟨(some 57), .bin .add (.t 56) (.c (.int .i64 1)), none⟩ ::⟨(some 12), .mv (.t 57), none⟩ :: []))))))) (.seq (.reg (⟨(some 78), .bsl 2 1 [.int .i64 0] [(0, (.c (.int .i64 3))), (1, (.c (.int .i64 3)))], none⟩ ::⟨(some 79), .call (.c (.fn 4 [])) [(.c (.int .i64 9)), (.t 78)], none⟩ ::⟨(some 80), .call (.c (.fn 9 [])) [(.t 79)], none⟩ ::⟨(some 81), .bin .eql (.t 80) (.c (.int .i64 1)), none⟩ ::⟨(some 82), .mv (.t 81), none⟩ ::⟨(some 83), .mv (.t 9), some (82, true)⟩ ::⟨(some 84), .call (.c (.fn 10 [])) [(.t 83)], some (82, true)⟩ ::⟨(some 85), .pick (.t 82) (.t 84) (.c (.bool false)), none⟩ ::⟨(some 86), .mv (.t 85), none⟩ ::⟨(some 87), .mv (.t 6), some (86, true)⟩ ::⟨(some 88), .mv (.t 10), some (86, true)⟩ ::⟨(some 89), .call (.c (.fn 11 [])) [(.t 87), (.t 88)], some (86, true)⟩ ::⟨(some 90), .pick (.t 86) (.t 89) (.c (.bool false)), none⟩ ::⟨(some 91), .mv (.t 90), none⟩ ::⟨(some 92), .mv (.t 10), some (91, true)⟩ ::⟨(some 93), .mv (.t 5), some (91, true)⟩ ::⟨(some 94), .call (.c (.fn 12 [])) [(.t 92), (.t 93)], some (91, true)⟩ ::⟨(some 95), .pick (.t 91) (.t 94) (.c (.bool false)), none⟩ ::⟨(some 4), .mv (.t 95), none⟩ :: [])) .ret)))))))))))
theorem cd_fretworktop_TopBits : Code1 Try.prog 3 96 ir_fretworktop_TopBits [.t 4] := ⟨Try.call3, _, _, Try.func3, rfl, by kernel_rfl, by kernel_rfl, by kernel_rfl, by kernel_rfl⟩

set_option maxHeartbeats 16000000 in
theorem fs_TopBits (n : Int) (l : List Int) (hn : 0 ≤ n ∧ n ≤ 65535) (hb : ∀ x ∈ l, -9223372036854775808 ≤ x ∧ x ≤ 9223372036854775807) : FS Try.prog 3 [.int .u16 n, Z l] (.bool true) := by
  refine fs_of_cvc mixed cd_fretworktop_TopBits (by simp) ?_
  have hk := tmod300 hn.1
  have hzl := zs_len l
  have d1 : FS Try.prog 4 [.int .i64 9, Z [3, 3]] (U [8]) := by
    have := fs_Of 9 (by omega) (by omega) [3, 3] (by simp) (by intro x hx; simp at hx; omega)
    rwa [show ofN 9 [3, 3] = [8] by kernel_rfl] at this
  have d2 := (cnt_of (ws := [8]) 1 (by intro x hx; simp at hx; omega) (by kernel_rfl)).resolve_right (by simp)
  by_cases hl : l.length ≤ 50
  · skip
    have hlm : (l).length ≤ 50 := hl
    have hbm : ∀ x ∈ l, -9223372036854775808 ≤ x ∧ x ≤ 9223372036854775807 := hb
    have hxs : zs l = zs (l) := rfl
    have hxl : (zs l).length = (l).length := by rw [hxs, zs_len]
    have c1 : FS Try.prog 4 [.int .i64 (n.tmod 300), .slc 1 (zs l)] (U (ofN (n.tmod 300) (l))) := by
      rw [hxs]; exact fs_Of (n.tmod 300) (by omega) (by omega) (l) (by omega) hbm
    have hhas : ∀ x ∈ l, hasI (ofN (n.tmod 300) (l)) x = (decide (0 ≤ x) && decide (x < n.tmod 300)) := fun x hx => ofN_has hk.1 (by omega) hx
    have hwd := wd_ofN (n.tmod 300) (l)
    have hFl : (ofN (n.tmod 300) (l)).length ≤ 5 := by rw [ofN_len]; unfold wordsI; omega
    have hright := right_ofN hk.1 (by omega) (l)
    generalize ofN (n.tmod 300) (l) = F at *
    have hUl := U_len F
    repeat' (conv => whnf); first
      | ((refine Or.inl ⟨by rfl, _, c1, ?_⟩))
      | ((refine And.intro (Or.inl (Nat.zero_le _)) ?_))
      | ((refine And.intro (show _ ≤ _ from Nat.le_of_ble_eq_true rfl) ?_))
      | (refine Br.tt ?_)
      | (refine Br.ff ?_)
      | (refine Br.dec (fun h => ?_) (fun h => ?_)) <;> try (exfalso; omega)
      | (refine Br.neg ?_)
      | (refine Br.mk (fun h => ?_) (fun h => ?_))
      | (refine And.intro rfl ?_)
      | (refine And.intro (by omega) ?_)
      | (refine ⟨_, Or.inl ⟨⟨by omega, by omega⟩, rfl⟩, ?_⟩)
      | (refine And.intro (by simp only [lens_all, tab_len, bs_len, byL_len, U_len, zs_len]; first | done | omega) ?_)
      | (refine And.intro (Nat.le_refl _) ?_)
      | fail
    refine ⟨Nat, fun i => i ≤ F.length, fun i => [(1, .slc 1 (zs l)), (5, .int .i64 (n.tmod 300)), (6, U F), (7, .osl 0 1 0 (8 * i)), (8, .int .i64 (i : Int))], fun i => [.arr 1 (bs (cat F i))], fun _ => none, fun i => F.length - i,
      ⟨0, Nat.zero_le _, ⟨rfl, rfl, rfl, ⟨Nat.le_refl _, rfl, rfl⟩, rfl, trivial⟩, ⟨rfl, trivial⟩, rfl⟩, fun i hi => ?_⟩
    have hi : i ≤ F.length := hi
    have hcl := cat_len F i hi
    have hbl := bs_len (cat F i)
    by_cases hiF : i < F.length
    · obtain ⟨v, hv⟩ : ∃ v, F[i]? = some v := ⟨_, List.getElem?_eq_getElem hiF⟩
      have hvw := hwd v (List.mem_of_getElem? hv)
      have hu : (uw F)[i]? = some [.int .u64 (v : Int)] := by simp [uw, hv]
      have cp := fs_Put64 (IntKind.i64.wrap (v : Int)) v hvw (back64 hvw)
      have hst := cat_more hv
      repeat' (conv => whnf); first
        | ((refine fun x hx => ?_); (obtain rfl : _ = x := Option.some.inj (hu.symm.trans hx); clear hx))
        | ((refine ⟨_, Or.inl ⟨⟨by omega, by omega⟩, rfl⟩, ?_⟩))
        | ((refine ⟨_, Or.inr rfl, ?_⟩))
        | ((refine Or.inl ⟨by rfl, _, cp, ?_⟩))
        | ((refine And.intro (bs_scal _) ?_))
        | ((refine And.intro (Or.inl (Nat.zero_le _)) ?_))
        | ((refine And.intro (show _ ≤ _ from Nat.le_of_ble_eq_true rfl) ?_))
        | (refine Br.tt ?_)
        | (refine Br.ff ?_)
        | (refine Br.dec (fun h => ?_) (fun h => ?_)) <;> try (exfalso; omega)
        | (refine Br.neg ?_)
        | (refine Br.mk (fun h => ?_) (fun h => ?_))
        | (refine And.intro rfl ?_)
        | (refine And.intro (by omega) ?_)
        | (refine ⟨_, Or.inl ⟨⟨by omega, by omega⟩, rfl⟩, ?_⟩)
        | (refine And.intro (by simp only [bs_len, byL_len]; first | done | omega) ?_)
        | (refine And.intro (Nat.le_refl _) ?_)
        | fail
      refine ⟨i + 1, (show i + 1 ≤ F.length by omega), (show F.length - (i + 1) < F.length - i by omega), ⟨rfl, rfl, rfl, ?_, rfl, trivial⟩, ⟨?_, trivial⟩, rfl⟩
      · exact rfl
      · rw [hst, bs_append]; rfl
    · obtain rfl : i = F.length := by omega
      have hcb : 8 * F.length = (bs (cat F F.length)).length := by rw [hbl, hcl]
      have co := fo_Open (cat F F.length) (by omega)
      rw [hcl] at co
      repeat' (conv => whnf); first
        | ((refine Or.inr (Or.inr (Or.inr (Or.inr (Or.inl (frz_own1 rfl hcb rfl ⟨_, _, co, rfl, open_loose _ _, ?_⟩)))))))
        | ((refine And.intro (Or.inl (Nat.zero_le _)) ?_))
        | ((refine And.intro (show _ ≤ _ from Nat.le_of_ble_eq_true rfl) ?_))
        | (refine Br.tt ?_)
        | (refine Br.ff ?_)
        | (refine Br.dec (fun h => ?_) (fun h => ?_)) <;> try (exfalso; omega)
        | (refine Br.neg ?_)
        | (refine Br.mk (fun h => ?_) (fun h => ?_))
        | (refine And.intro rfl ?_)
        | (refine And.intro (by omega) ?_)
        | (refine ⟨_, Or.inl ⟨⟨by omega, by omega⟩, rfl⟩, ?_⟩)
        | (refine And.intro (by simp only [lens_all, tab_len, bs_len, byL_len, U_len, zs_len]; first | done | omega) ?_)
        | (refine And.intro (Nat.le_refl _) ?_)
        | fail
      refine ⟨Nat, fun i => i ≤ F.length, fun i => [(1, .slc 1 (zs l)), (5, .int .i64 (n.tmod 300)), (6, U F), (9, .ptr 2 0 0 0), (10, .osl 3 1 0 i), (11, .int .i64 (i : Int))], fun i => [.dead, .arr 1 (bs (cat F F.length)), .vars [.osl 1 1 0 (cat F F.length).length, .int .i64 ((8 * i : Nat) : Int), .int .i64 0, .int .i64 0], .arr 1 (uw (F.take i))], fun _ => none, fun i => F.length - i,
        ⟨0, Nat.zero_le _, ⟨rfl, rfl, rfl, rfl, ⟨Nat.le_refl _, rfl, rfl⟩, rfl, trivial⟩, ⟨trivial, rfl, ⟨?_, rfl, rfl, rfl, trivial⟩, rfl, trivial⟩, rfl⟩, fun i hi => ?_⟩
      · exact congrArg (SV.osl 1 1 0) hcl.symm
      have hi : i ≤ F.length := hi
      have hul := U_len (F.take i)
      have htl : (F.take i).length = i := by rw [List.length_take]; omega
      by_cases hiF : i < F.length
      · obtain ⟨v, hv⟩ : ∃ v, F[i]? = some v := ⟨_, List.getElem?_eq_getElem hiF⟩
        have hvw := hwd v (List.mem_of_getElem? hv)
        have ci := hs_I64 (cat F F.length) (F.take i) (8 * i) v (by omega) (by omega) hvw (cat_at hv)
        unfold rdH at ci
        have hst : F.take (i + 1) = F.take i ++ [v] := by rw [List.take_add_one, hv]; rfl
        repeat' (conv => whnf); first
          | ((refine Or.inr (Or.inr (Or.inr (Or.inl ⟨_, _, [], ci, by simp, ?_⟩)))))
          | ((refine ⟨_, Or.inl ⟨⟨by omega, by omega⟩, rfl⟩, ?_⟩))
          | ((refine ⟨_, Or.inr rfl, ?_⟩))
          | ((refine And.intro (by intro y hy; simp at hy; subst hy; rfl) ?_))
          | ((refine And.intro (Or.inl (Nat.zero_le _)) ?_))
          | ((refine And.intro (show _ ≤ _ from Nat.le_of_ble_eq_true rfl) ?_))
          | (refine Br.tt ?_)
          | (refine Br.ff ?_)
          | (refine Br.dec (fun h => ?_) (fun h => ?_)) <;> try (exfalso; omega)
          | (refine Br.neg ?_)
          | (refine Br.mk (fun h => ?_) (fun h => ?_))
          | (refine And.intro rfl ?_)
          | (refine And.intro (by omega) ?_)
          | (refine ⟨_, Or.inl ⟨⟨by omega, by omega⟩, rfl⟩, ?_⟩)
          | (refine And.intro (by simp only [lens_all, U_len]; first | done | omega) ?_)
          | (refine And.intro (Nat.le_refl _) ?_)
          | fail
        refine ⟨i + 1, (show i + 1 ≤ F.length by omega), (show F.length - (i + 1) < F.length - i by omega), ⟨rfl, rfl, rfl, rfl, rfl, ?_, trivial⟩, ⟨trivial, rfl, ⟨rfl, rfl, rfl, rfl, trivial⟩, ?_, trivial⟩, rfl⟩
        · exact rfl
        · refine congrArg (Blk.arr 1) ?_
          rw [hst]
          show uw (F.take i) ++ [[SV.int .u64 (IntKind.u64.wrap (IntKind.i64.wrap (v : Int)))]] = uw (F.take i ++ [v])
          rw [back64 hvw]
          simp [uw]
      · obtain rfl : i = F.length := by omega
        have et : F.take F.length = F := List.take_length
        repeat' (conv => whnf); first
          | ((refine And.intro (Or.inl (Nat.zero_le _)) ?_))
          | ((refine And.intro (show _ ≤ _ from Nat.le_of_ble_eq_true rfl) ?_))
          | (refine Br.tt ?_)
          | (refine Br.ff ?_)
          | (refine Br.dec (fun h => ?_) (fun h => ?_)) <;> try (exfalso; omega)
          | (refine Br.neg ?_)
          | (refine Br.mk (fun h => ?_) (fun h => ?_))
          | (refine And.intro rfl ?_)
          | (refine And.intro (by omega) ?_)
          | (refine ⟨_, Or.inl ⟨⟨by omega, by omega⟩, rfl⟩, ?_⟩)
          | (refine And.intro (by simp only [lens_all, tab_len, bs_len, byL_len, U_len, zs_len]; first | done | omega) ?_)
          | (refine And.intro (Nat.le_refl _) ?_)
          | fail
        refine ⟨Nat, fun j => j ≤ (l).length, fun j => [(1, .slc 1 (zs l)), (5, .int .i64 (n.tmod 300)), (6, U F), (9, .ptr 2 0 0 0), (10, .osl 3 1 0 F.length), (12, .int .i64 (j : Int))], fun _ => [.dead, .arr 1 (bs (cat F F.length)), .vars [.osl 1 1 0 (cat F F.length).length, .int .i64 ((8 * F.length : Nat) : Int), .int .i64 0, .int .i64 0], .arr 1 (uw F)], fun _ => none, fun j => (l).length - j,
          ⟨0, Nat.zero_le _, ⟨rfl, rfl, rfl, rfl, rfl, rfl, trivial⟩, ⟨trivial, rfl, ⟨rfl, rfl, rfl, rfl, trivial⟩, ?_, trivial⟩, rfl⟩, fun j hj => ?_⟩
        · exact congrArg (fun x => Blk.arr 1 (uw x)) et
        have hj : j ≤ (l).length := hj
        by_cases hjl : j < (l).length
        · obtain ⟨x, hx⟩ : ∃ x, (l)[j]? = some x := ⟨_, List.getElem?_eq_getElem hjl⟩
          have hxm := List.mem_of_getElem? hx
          have hxb := hbm x hxm
          have ch := fs_Has F hwd x hxb.2
          rw [hhas x hxm] at ch
          have hget : (zs l)[j]? = some [.int .i64 x] := by rw [hxs]; exact zs_at2 hx
          by_cases hx0 : 0 ≤ x
          · by_cases hxk : x < n.tmod 300
            · rw [decide_eq_true hx0, decide_eq_true hxk] at ch
              repeat' (conv => whnf); first
                | ((refine fun z hz => ?_); (obtain rfl : _ = z := Option.some.inj (hget.symm.trans hz); clear hz))
                | ((refine Or.inr (Or.inr (Or.inl (lend_own rfl hUl.symm rfl ch rfl ?_)))))
                | ((refine And.intro (Or.inl (Nat.zero_le _)) ?_))
                | ((refine And.intro (show _ ≤ _ from Nat.le_of_ble_eq_true rfl) ?_))
                | (refine Br.tt ?_)
                | (refine Br.ff ?_)
                | (refine Br.dec (fun h => ?_) (fun h => ?_)) <;> try (exfalso; omega)
                | (refine Br.neg ?_)
                | (refine Br.mk (fun h => ?_) (fun h => ?_))
                | (refine And.intro rfl ?_)
                | (refine And.intro (by omega) ?_)
                | (refine ⟨_, Or.inl ⟨⟨by omega, by omega⟩, rfl⟩, ?_⟩)
                | (refine And.intro (by simp only [lens_all, tab_len, bs_len, byL_len, U_len, zs_len]; first | done | omega) ?_)
                | (refine And.intro (Nat.le_refl _) ?_)
                | fail
              all_goals first
                | exact ⟨j + 1, (show j + 1 ≤ (l).length by omega), (show (l).length - (j + 1) < (l).length - j by omega), ⟨rfl, rfl, rfl, rfl, rfl, rfl, trivial⟩, ⟨trivial, rfl, ⟨rfl, rfl, rfl, rfl, trivial⟩, rfl, trivial⟩, rfl⟩
                | (exfalso; revert h; simp [hxk]; done)
            · rw [decide_eq_false hxk, Bool.and_false] at ch
              repeat' (conv => whnf); first
                | ((refine fun z hz => ?_); (obtain rfl : _ = z := Option.some.inj (hget.symm.trans hz); clear hz))
                | ((refine Or.inr (Or.inr (Or.inl (lend_own rfl hUl.symm rfl ch rfl ?_)))))
                | ((refine And.intro (Or.inl (Nat.zero_le _)) ?_))
                | ((refine And.intro (show _ ≤ _ from Nat.le_of_ble_eq_true rfl) ?_))
                | (refine Br.tt ?_)
                | (refine Br.ff ?_)
                | (refine Br.dec (fun h => ?_) (fun h => ?_)) <;> try (exfalso; omega)
                | (refine Br.neg ?_)
                | (refine Br.mk (fun h => ?_) (fun h => ?_))
                | (refine And.intro rfl ?_)
                | (refine And.intro (by omega) ?_)
                | (refine ⟨_, Or.inl ⟨⟨by omega, by omega⟩, rfl⟩, ?_⟩)
                | (refine And.intro (by simp only [lens_all, tab_len, bs_len, byL_len, U_len, zs_len]; first | done | omega) ?_)
                | (refine And.intro (Nat.le_refl _) ?_)
                | fail
              all_goals first
                | exact ⟨j + 1, (show j + 1 ≤ (l).length by omega), (show (l).length - (j + 1) < (l).length - j by omega), ⟨rfl, rfl, rfl, rfl, rfl, rfl, trivial⟩, ⟨trivial, rfl, ⟨rfl, rfl, rfl, rfl, trivial⟩, rfl, trivial⟩, rfl⟩
                | (exfalso; revert h; simp [hxk]; done)
          · rw [decide_eq_false hx0, Bool.false_and] at ch
            repeat' (conv => whnf); first
              | ((refine fun z hz => ?_); (obtain rfl : _ = z := Option.some.inj (hget.symm.trans hz); clear hz))
              | ((refine Or.inr (Or.inr (Or.inl (lend_own rfl hUl.symm rfl ch rfl ?_)))))
              | ((refine And.intro (Or.inl (Nat.zero_le _)) ?_))
              | ((refine And.intro (show _ ≤ _ from Nat.le_of_ble_eq_true rfl) ?_))
              | (refine Br.tt ?_)
              | (refine Br.ff ?_)
              | (refine Br.dec (fun h => ?_) (fun h => ?_)) <;> try (exfalso; omega)
              | (refine Br.neg ?_)
              | (refine Br.mk (fun h => ?_) (fun h => ?_))
              | (refine And.intro rfl ?_)
              | (refine And.intro (by omega) ?_)
              | (refine ⟨_, Or.inl ⟨⟨by omega, by omega⟩, rfl⟩, ?_⟩)
              | (refine And.intro (by simp only [lens_all, tab_len, bs_len, byL_len, U_len, zs_len]; first | done | omega) ?_)
              | (refine And.intro (Nat.le_refl _) ?_)
              | fail
            all_goals first
              | exact ⟨j + 1, (show j + 1 ≤ (l).length by omega), (show (l).length - (j + 1) < (l).length - j by omega), ⟨rfl, rfl, rfl, rfl, rfl, rfl, trivial⟩, ⟨trivial, rfl, ⟨rfl, rfl, rfl, rfl, trivial⟩, rfl, trivial⟩, rfl⟩
              | (exfalso; revert h; simp; done)
        · have ce : FS Try.prog 10 [.box [.slc 1 (List.take (cat F F.length).length (List.drop 0 (bs (cat F F.length)))), .int .i64 ((8 * F.length : Nat) : Int), .int .i64 0, .int .i64 0] 0] (.bool true) := by
            have := fs_End (cat F F.length) ((8 * F.length : Nat) : Int)
            rw [hcl, decide_eq_true rfl] at this
            rw [List.drop_zero, ← bs_len, List.take_length]; exact this
          have cs : FS Try.prog 11 [U F, .slc 1 (List.take F.length (List.drop 0 (uw F)))] (.bool true) := by
            have := fs_Same F F (by omega)
            rw [decide_eq_true rfl] at this
            rw [List.drop_zero, ← U_len, List.take_length]; exact this
          have cr := fs_Right' F hwd (by omega) (n.tmod 300) (by omega) (by omega)
          rw [hright] at cr
          have hcb2 := bs_len (cat F F.length)
          repeat' (conv => whnf); first
            | ((refine Or.inl ⟨by rfl, _, d1, ?_⟩))
            | ((refine Or.inl ⟨by rfl, _, d2, ?_⟩))
            | ((refine Or.inr (Or.inr (Or.inl (lend_own rfl hUl.symm rfl cr rfl ?_)))))
            | ((refine ⟨_, ce, rfl, ?_⟩))
            | ((refine ⟨_, cs, rfl, ?_⟩))
            | ((refine Or.inr (Or.inr (Or.inl ?_))))
            | ((refine And.intro (Or.inl (Nat.zero_le _)) ?_))
            | ((refine And.intro (show _ ≤ _ from Nat.le_of_ble_eq_true rfl) ?_))
            | (refine Br.tt ?_)
            | (refine Br.ff ?_)
            | (refine Br.dec (fun h => ?_) (fun h => ?_)) <;> try (exfalso; omega)
            | (refine Br.neg ?_)
            | (refine Br.mk (fun h => ?_) (fun h => ?_))
            | (refine And.intro rfl ?_)
            | (refine And.intro (by omega) ?_)
            | (refine ⟨_, Or.inl ⟨⟨by omega, by omega⟩, rfl⟩, ?_⟩)
            | (refine And.intro (by simp only [lens_all, tab_len, bs_len, byL_len, U_len, zs_len]; first | done | omega) ?_)
            | (refine And.intro (Nat.le_refl _) ?_)
            | fail
          all_goals exact rfl
  · skip
    have hlm : (l.take 50).length ≤ 50 := (by rw [List.length_take]; omega)
    have hbm : ∀ x ∈ l.take 50, -9223372036854775808 ≤ x ∧ x ≤ 9223372036854775807 := (fun x hx => hb x (List.mem_of_mem_take hx))
    have hxs : List.drop 0 (List.take 50 (zs l)) = zs (l.take 50) := (by rw [List.drop_zero, zs_take])
    have hxl : (List.drop 0 (List.take 50 (zs l))).length = (l.take 50).length := by rw [hxs, zs_len]
    have c1 : FS Try.prog 4 [.int .i64 (n.tmod 300), .slc 1 (List.drop 0 (List.take 50 (zs l)))] (U (ofN (n.tmod 300) (l.take 50))) := by
      rw [hxs]; exact fs_Of (n.tmod 300) (by omega) (by omega) (l.take 50) (by omega) hbm
    have hhas : ∀ x ∈ l.take 50, hasI (ofN (n.tmod 300) (l.take 50)) x = (decide (0 ≤ x) && decide (x < n.tmod 300)) := fun x hx => ofN_has hk.1 (by omega) hx
    have hwd := wd_ofN (n.tmod 300) (l.take 50)
    have hFl : (ofN (n.tmod 300) (l.take 50)).length ≤ 5 := by rw [ofN_len]; unfold wordsI; omega
    have hright := right_ofN hk.1 (by omega) (l.take 50)
    generalize ofN (n.tmod 300) (l.take 50) = F at *
    have hUl := U_len F
    repeat' (conv => whnf); first
      | ((refine Or.inl ⟨by rfl, _, c1, ?_⟩))
      | ((refine And.intro (Or.inl (Nat.zero_le _)) ?_))
      | ((refine And.intro (show _ ≤ _ from Nat.le_of_ble_eq_true rfl) ?_))
      | (refine Br.tt ?_)
      | (refine Br.ff ?_)
      | (refine Br.dec (fun h => ?_) (fun h => ?_)) <;> try (exfalso; omega)
      | (refine Br.neg ?_)
      | (refine Br.mk (fun h => ?_) (fun h => ?_))
      | (refine And.intro rfl ?_)
      | (refine And.intro (by omega) ?_)
      | (refine ⟨_, Or.inl ⟨⟨by omega, by omega⟩, rfl⟩, ?_⟩)
      | (refine And.intro (by simp only [lens_all, tab_len, bs_len, byL_len, U_len, zs_len]; first | done | omega) ?_)
      | (refine And.intro (Nat.le_refl _) ?_)
      | fail
    refine ⟨Nat, fun i => i ≤ F.length, fun i => [(1, .slc 1 (List.drop 0 (List.take 50 (zs l)))), (5, .int .i64 (n.tmod 300)), (6, U F), (7, .osl 0 1 0 (8 * i)), (8, .int .i64 (i : Int))], fun i => [.arr 1 (bs (cat F i))], fun _ => none, fun i => F.length - i,
      ⟨0, Nat.zero_le _, ⟨rfl, rfl, rfl, ⟨Nat.le_refl _, rfl, rfl⟩, rfl, trivial⟩, ⟨rfl, trivial⟩, rfl⟩, fun i hi => ?_⟩
    have hi : i ≤ F.length := hi
    have hcl := cat_len F i hi
    have hbl := bs_len (cat F i)
    by_cases hiF : i < F.length
    · obtain ⟨v, hv⟩ : ∃ v, F[i]? = some v := ⟨_, List.getElem?_eq_getElem hiF⟩
      have hvw := hwd v (List.mem_of_getElem? hv)
      have hu : (uw F)[i]? = some [.int .u64 (v : Int)] := by simp [uw, hv]
      have cp := fs_Put64 (IntKind.i64.wrap (v : Int)) v hvw (back64 hvw)
      have hst := cat_more hv
      repeat' (conv => whnf); first
        | ((refine fun x hx => ?_); (obtain rfl : _ = x := Option.some.inj (hu.symm.trans hx); clear hx))
        | ((refine ⟨_, Or.inl ⟨⟨by omega, by omega⟩, rfl⟩, ?_⟩))
        | ((refine ⟨_, Or.inr rfl, ?_⟩))
        | ((refine Or.inl ⟨by rfl, _, cp, ?_⟩))
        | ((refine And.intro (bs_scal _) ?_))
        | ((refine And.intro (Or.inl (Nat.zero_le _)) ?_))
        | ((refine And.intro (show _ ≤ _ from Nat.le_of_ble_eq_true rfl) ?_))
        | (refine Br.tt ?_)
        | (refine Br.ff ?_)
        | (refine Br.dec (fun h => ?_) (fun h => ?_)) <;> try (exfalso; omega)
        | (refine Br.neg ?_)
        | (refine Br.mk (fun h => ?_) (fun h => ?_))
        | (refine And.intro rfl ?_)
        | (refine And.intro (by omega) ?_)
        | (refine ⟨_, Or.inl ⟨⟨by omega, by omega⟩, rfl⟩, ?_⟩)
        | (refine And.intro (by simp only [bs_len, byL_len]; first | done | omega) ?_)
        | (refine And.intro (Nat.le_refl _) ?_)
        | fail
      refine ⟨i + 1, (show i + 1 ≤ F.length by omega), (show F.length - (i + 1) < F.length - i by omega), ⟨rfl, rfl, rfl, ?_, rfl, trivial⟩, ⟨?_, trivial⟩, rfl⟩
      · exact rfl
      · rw [hst, bs_append]; rfl
    · obtain rfl : i = F.length := by omega
      have hcb : 8 * F.length = (bs (cat F F.length)).length := by rw [hbl, hcl]
      have co := fo_Open (cat F F.length) (by omega)
      rw [hcl] at co
      repeat' (conv => whnf); first
        | ((refine Or.inr (Or.inr (Or.inr (Or.inr (Or.inl (frz_own1 rfl hcb rfl ⟨_, _, co, rfl, open_loose _ _, ?_⟩)))))))
        | ((refine And.intro (Or.inl (Nat.zero_le _)) ?_))
        | ((refine And.intro (show _ ≤ _ from Nat.le_of_ble_eq_true rfl) ?_))
        | (refine Br.tt ?_)
        | (refine Br.ff ?_)
        | (refine Br.dec (fun h => ?_) (fun h => ?_)) <;> try (exfalso; omega)
        | (refine Br.neg ?_)
        | (refine Br.mk (fun h => ?_) (fun h => ?_))
        | (refine And.intro rfl ?_)
        | (refine And.intro (by omega) ?_)
        | (refine ⟨_, Or.inl ⟨⟨by omega, by omega⟩, rfl⟩, ?_⟩)
        | (refine And.intro (by simp only [lens_all, tab_len, bs_len, byL_len, U_len, zs_len]; first | done | omega) ?_)
        | (refine And.intro (Nat.le_refl _) ?_)
        | fail
      refine ⟨Nat, fun i => i ≤ F.length, fun i => [(1, .slc 1 (List.drop 0 (List.take 50 (zs l)))), (5, .int .i64 (n.tmod 300)), (6, U F), (9, .ptr 2 0 0 0), (10, .osl 3 1 0 i), (11, .int .i64 (i : Int))], fun i => [.dead, .arr 1 (bs (cat F F.length)), .vars [.osl 1 1 0 (cat F F.length).length, .int .i64 ((8 * i : Nat) : Int), .int .i64 0, .int .i64 0], .arr 1 (uw (F.take i))], fun _ => none, fun i => F.length - i,
        ⟨0, Nat.zero_le _, ⟨rfl, rfl, rfl, rfl, ⟨Nat.le_refl _, rfl, rfl⟩, rfl, trivial⟩, ⟨trivial, rfl, ⟨?_, rfl, rfl, rfl, trivial⟩, rfl, trivial⟩, rfl⟩, fun i hi => ?_⟩
      · exact congrArg (SV.osl 1 1 0) hcl.symm
      have hi : i ≤ F.length := hi
      have hul := U_len (F.take i)
      have htl : (F.take i).length = i := by rw [List.length_take]; omega
      by_cases hiF : i < F.length
      · obtain ⟨v, hv⟩ : ∃ v, F[i]? = some v := ⟨_, List.getElem?_eq_getElem hiF⟩
        have hvw := hwd v (List.mem_of_getElem? hv)
        have ci := hs_I64 (cat F F.length) (F.take i) (8 * i) v (by omega) (by omega) hvw (cat_at hv)
        unfold rdH at ci
        have hst : F.take (i + 1) = F.take i ++ [v] := by rw [List.take_add_one, hv]; rfl
        repeat' (conv => whnf); first
          | ((refine Or.inr (Or.inr (Or.inr (Or.inl ⟨_, _, [], ci, by simp, ?_⟩)))))
          | ((refine ⟨_, Or.inl ⟨⟨by omega, by omega⟩, rfl⟩, ?_⟩))
          | ((refine ⟨_, Or.inr rfl, ?_⟩))
          | ((refine And.intro (by intro y hy; simp at hy; subst hy; rfl) ?_))
          | ((refine And.intro (Or.inl (Nat.zero_le _)) ?_))
          | ((refine And.intro (show _ ≤ _ from Nat.le_of_ble_eq_true rfl) ?_))
          | (refine Br.tt ?_)
          | (refine Br.ff ?_)
          | (refine Br.dec (fun h => ?_) (fun h => ?_)) <;> try (exfalso; omega)
          | (refine Br.neg ?_)
          | (refine Br.mk (fun h => ?_) (fun h => ?_))
          | (refine And.intro rfl ?_)
          | (refine And.intro (by omega) ?_)
          | (refine ⟨_, Or.inl ⟨⟨by omega, by omega⟩, rfl⟩, ?_⟩)
          | (refine And.intro (by simp only [lens_all, U_len]; first | done | omega) ?_)
          | (refine And.intro (Nat.le_refl _) ?_)
          | fail
        refine ⟨i + 1, (show i + 1 ≤ F.length by omega), (show F.length - (i + 1) < F.length - i by omega), ⟨rfl, rfl, rfl, rfl, rfl, ?_, trivial⟩, ⟨trivial, rfl, ⟨rfl, rfl, rfl, rfl, trivial⟩, ?_, trivial⟩, rfl⟩
        · exact rfl
        · refine congrArg (Blk.arr 1) ?_
          rw [hst]
          show uw (F.take i) ++ [[SV.int .u64 (IntKind.u64.wrap (IntKind.i64.wrap (v : Int)))]] = uw (F.take i ++ [v])
          rw [back64 hvw]
          simp [uw]
      · obtain rfl : i = F.length := by omega
        have et : F.take F.length = F := List.take_length
        repeat' (conv => whnf); first
          | ((refine And.intro (Or.inl (Nat.zero_le _)) ?_))
          | ((refine And.intro (show _ ≤ _ from Nat.le_of_ble_eq_true rfl) ?_))
          | (refine Br.tt ?_)
          | (refine Br.ff ?_)
          | (refine Br.dec (fun h => ?_) (fun h => ?_)) <;> try (exfalso; omega)
          | (refine Br.neg ?_)
          | (refine Br.mk (fun h => ?_) (fun h => ?_))
          | (refine And.intro rfl ?_)
          | (refine And.intro (by omega) ?_)
          | (refine ⟨_, Or.inl ⟨⟨by omega, by omega⟩, rfl⟩, ?_⟩)
          | (refine And.intro (by simp only [lens_all, tab_len, bs_len, byL_len, U_len, zs_len]; first | done | omega) ?_)
          | (refine And.intro (Nat.le_refl _) ?_)
          | fail
        refine ⟨Nat, fun j => j ≤ (l.take 50).length, fun j => [(1, .slc 1 (List.drop 0 (List.take 50 (zs l)))), (5, .int .i64 (n.tmod 300)), (6, U F), (9, .ptr 2 0 0 0), (10, .osl 3 1 0 F.length), (12, .int .i64 (j : Int))], fun _ => [.dead, .arr 1 (bs (cat F F.length)), .vars [.osl 1 1 0 (cat F F.length).length, .int .i64 ((8 * F.length : Nat) : Int), .int .i64 0, .int .i64 0], .arr 1 (uw F)], fun _ => none, fun j => (l.take 50).length - j,
          ⟨0, Nat.zero_le _, ⟨rfl, rfl, rfl, rfl, rfl, rfl, trivial⟩, ⟨trivial, rfl, ⟨rfl, rfl, rfl, rfl, trivial⟩, ?_, trivial⟩, rfl⟩, fun j hj => ?_⟩
        · exact congrArg (fun x => Blk.arr 1 (uw x)) et
        have hj : j ≤ (l.take 50).length := hj
        by_cases hjl : j < (l.take 50).length
        · obtain ⟨x, hx⟩ : ∃ x, (l.take 50)[j]? = some x := ⟨_, List.getElem?_eq_getElem hjl⟩
          have hxm := List.mem_of_getElem? hx
          have hxb := hbm x hxm
          have ch := fs_Has F hwd x hxb.2
          rw [hhas x hxm] at ch
          have hget : (List.drop 0 (List.take 50 (zs l)))[j]? = some [.int .i64 x] := by rw [hxs]; exact zs_at2 hx
          by_cases hx0 : 0 ≤ x
          · by_cases hxk : x < n.tmod 300
            · rw [decide_eq_true hx0, decide_eq_true hxk] at ch
              repeat' (conv => whnf); first
                | ((refine fun z hz => ?_); (obtain rfl : _ = z := Option.some.inj (hget.symm.trans hz); clear hz))
                | ((refine Or.inr (Or.inr (Or.inl (lend_own rfl hUl.symm rfl ch rfl ?_)))))
                | ((refine And.intro (Or.inl (Nat.zero_le _)) ?_))
                | ((refine And.intro (show _ ≤ _ from Nat.le_of_ble_eq_true rfl) ?_))
                | (refine Br.tt ?_)
                | (refine Br.ff ?_)
                | (refine Br.dec (fun h => ?_) (fun h => ?_)) <;> try (exfalso; omega)
                | (refine Br.neg ?_)
                | (refine Br.mk (fun h => ?_) (fun h => ?_))
                | (refine And.intro rfl ?_)
                | (refine And.intro (by omega) ?_)
                | (refine ⟨_, Or.inl ⟨⟨by omega, by omega⟩, rfl⟩, ?_⟩)
                | (refine And.intro (by simp only [lens_all, tab_len, bs_len, byL_len, U_len, zs_len]; first | done | omega) ?_)
                | (refine And.intro (Nat.le_refl _) ?_)
                | fail
              all_goals first
                | exact ⟨j + 1, (show j + 1 ≤ (l.take 50).length by omega), (show (l.take 50).length - (j + 1) < (l.take 50).length - j by omega), ⟨rfl, rfl, rfl, rfl, rfl, rfl, trivial⟩, ⟨trivial, rfl, ⟨rfl, rfl, rfl, rfl, trivial⟩, rfl, trivial⟩, rfl⟩
                | (exfalso; revert h; simp [hxk]; done)
            · rw [decide_eq_false hxk, Bool.and_false] at ch
              repeat' (conv => whnf); first
                | ((refine fun z hz => ?_); (obtain rfl : _ = z := Option.some.inj (hget.symm.trans hz); clear hz))
                | ((refine Or.inr (Or.inr (Or.inl (lend_own rfl hUl.symm rfl ch rfl ?_)))))
                | ((refine And.intro (Or.inl (Nat.zero_le _)) ?_))
                | ((refine And.intro (show _ ≤ _ from Nat.le_of_ble_eq_true rfl) ?_))
                | (refine Br.tt ?_)
                | (refine Br.ff ?_)
                | (refine Br.dec (fun h => ?_) (fun h => ?_)) <;> try (exfalso; omega)
                | (refine Br.neg ?_)
                | (refine Br.mk (fun h => ?_) (fun h => ?_))
                | (refine And.intro rfl ?_)
                | (refine And.intro (by omega) ?_)
                | (refine ⟨_, Or.inl ⟨⟨by omega, by omega⟩, rfl⟩, ?_⟩)
                | (refine And.intro (by simp only [lens_all, tab_len, bs_len, byL_len, U_len, zs_len]; first | done | omega) ?_)
                | (refine And.intro (Nat.le_refl _) ?_)
                | fail
              all_goals first
                | exact ⟨j + 1, (show j + 1 ≤ (l.take 50).length by omega), (show (l.take 50).length - (j + 1) < (l.take 50).length - j by omega), ⟨rfl, rfl, rfl, rfl, rfl, rfl, trivial⟩, ⟨trivial, rfl, ⟨rfl, rfl, rfl, rfl, trivial⟩, rfl, trivial⟩, rfl⟩
                | (exfalso; revert h; simp [hxk]; done)
          · rw [decide_eq_false hx0, Bool.false_and] at ch
            repeat' (conv => whnf); first
              | ((refine fun z hz => ?_); (obtain rfl : _ = z := Option.some.inj (hget.symm.trans hz); clear hz))
              | ((refine Or.inr (Or.inr (Or.inl (lend_own rfl hUl.symm rfl ch rfl ?_)))))
              | ((refine And.intro (Or.inl (Nat.zero_le _)) ?_))
              | ((refine And.intro (show _ ≤ _ from Nat.le_of_ble_eq_true rfl) ?_))
              | (refine Br.tt ?_)
              | (refine Br.ff ?_)
              | (refine Br.dec (fun h => ?_) (fun h => ?_)) <;> try (exfalso; omega)
              | (refine Br.neg ?_)
              | (refine Br.mk (fun h => ?_) (fun h => ?_))
              | (refine And.intro rfl ?_)
              | (refine And.intro (by omega) ?_)
              | (refine ⟨_, Or.inl ⟨⟨by omega, by omega⟩, rfl⟩, ?_⟩)
              | (refine And.intro (by simp only [lens_all, tab_len, bs_len, byL_len, U_len, zs_len]; first | done | omega) ?_)
              | (refine And.intro (Nat.le_refl _) ?_)
              | fail
            all_goals first
              | exact ⟨j + 1, (show j + 1 ≤ (l.take 50).length by omega), (show (l.take 50).length - (j + 1) < (l.take 50).length - j by omega), ⟨rfl, rfl, rfl, rfl, rfl, rfl, trivial⟩, ⟨trivial, rfl, ⟨rfl, rfl, rfl, rfl, trivial⟩, rfl, trivial⟩, rfl⟩
              | (exfalso; revert h; simp; done)
        · have ce : FS Try.prog 10 [.box [.slc 1 (List.take (cat F F.length).length (List.drop 0 (bs (cat F F.length)))), .int .i64 ((8 * F.length : Nat) : Int), .int .i64 0, .int .i64 0] 0] (.bool true) := by
            have := fs_End (cat F F.length) ((8 * F.length : Nat) : Int)
            rw [hcl, decide_eq_true rfl] at this
            rw [List.drop_zero, ← bs_len, List.take_length]; exact this
          have cs : FS Try.prog 11 [U F, .slc 1 (List.take F.length (List.drop 0 (uw F)))] (.bool true) := by
            have := fs_Same F F (by omega)
            rw [decide_eq_true rfl] at this
            rw [List.drop_zero, ← U_len, List.take_length]; exact this
          have cr := fs_Right' F hwd (by omega) (n.tmod 300) (by omega) (by omega)
          rw [hright] at cr
          have hcb2 := bs_len (cat F F.length)
          repeat' (conv => whnf); first
            | ((refine Or.inl ⟨by rfl, _, d1, ?_⟩))
            | ((refine Or.inl ⟨by rfl, _, d2, ?_⟩))
            | ((refine Or.inr (Or.inr (Or.inl (lend_own rfl hUl.symm rfl cr rfl ?_)))))
            | ((refine ⟨_, ce, rfl, ?_⟩))
            | ((refine ⟨_, cs, rfl, ?_⟩))
            | ((refine Or.inr (Or.inr (Or.inl ?_))))
            | ((refine And.intro (Or.inl (Nat.zero_le _)) ?_))
            | ((refine And.intro (show _ ≤ _ from Nat.le_of_ble_eq_true rfl) ?_))
            | (refine Br.tt ?_)
            | (refine Br.ff ?_)
            | (refine Br.dec (fun h => ?_) (fun h => ?_)) <;> try (exfalso; omega)
            | (refine Br.neg ?_)
            | (refine Br.mk (fun h => ?_) (fun h => ?_))
            | (refine And.intro rfl ?_)
            | (refine And.intro (by omega) ?_)
            | (refine ⟨_, Or.inl ⟨⟨by omega, by omega⟩, rfl⟩, ?_⟩)
            | (refine And.intro (by simp only [lens_all, tab_len, bs_len, byL_len, U_len, zs_len]; first | done | omega) ?_)
            | (refine And.intro (Nat.le_refl _) ?_)
            | fail
          all_goals exact rfl
end
end Go.Proofs.Yticahmkeanbjfaa
