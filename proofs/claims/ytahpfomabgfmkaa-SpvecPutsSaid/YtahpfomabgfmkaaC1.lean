/- A vector of items: what is asked ahead; the operations on the map of sums, all together. A vector of items: the program's function. -/
import Derived.Test.YtahpfomabgfmkaaD6
namespace Go.Proofs.Ytahpfomabgfmkaa
section
open Go.RowKit
attribute [local irreducible] FS FO IT HS

theorem idxI_any (p : Int × Int → Bool) (l : List (Int × Int)) : decide (0 ≤ idxI p l) = l.any p := by
  unfold idxI
  cases h : l.findIdx? p with
  | none =>
    rw [List.findIdx?_eq_none_iff] at h
    have : l.any p = false := List.any_eq_false.2 fun x hx => by rw [h x hx]; simp
    rw [this]; rfl
  | some i =>
    rw [List.findIdx?_eq_some_iff_getElem] at h
    obtain ⟨h1, h2, _⟩ := h
    rw [List.any_eq_true.2 ⟨_, List.getElem_mem h1, h2⟩]
    exact decide_eq_true (Int.natCast_nonneg i)

theorem fs_ContainsFn (g : FuncId) (caps : List SV) (p : Int × Int → Bool) (l : List (Int × Int)) (hl : l.length ≤ 1000000000) (hpu : ∀ a b, SV.pure.pureL (.agg [.int .i64 a, .int .i64 b] :: caps) = true) (hp : ∀ x ∈ l, FS Try.prog g (.agg [.int .i64 x.1, .int .i64 x.2] :: caps) (.bool (p x))) :
    FS Try.prog 101 [IL l, .fn g caps] (.bool (l.any p)) := by
  refine fs_of_cvc mixed cd_slices_ContainsFunc_api_Item_api_Item (by simp) ?_
  have c1 := fs_IndexFn g caps p l hl hpu hp
  have hcp : SV.pure.pureL caps = true := by have := hpu 0 0; simpa [SV.pure.pureL, SV.pure] using this
  have hcr : SV.pure.pureL [IL l, .fn g caps] = true := by simp [SV.pure.pureL, SV.pure, IL, hcp]
  rw [← idxI_any]
  generalize idxI p l = i at *
  repeat' (conv => whnf); first
    | ((refine Or.inl ⟨hcr, _, c1, ?_⟩))
    | (refine Br.tt ?_)
    | (refine Br.ff ?_)
    | (refine Br.dec (fun h => ?_) (fun h => ?_)) <;> try (exfalso; omega)
    | (refine Br.neg ?_)
    | (refine Br.mk (fun h => ?_) (fun h => ?_))
    | (refine And.intro rfl ?_)
    | (refine And.intro (by omega) ?_)
    | (refine ⟨_, Or.inl ⟨⟨by omega, by omega⟩, rfl⟩, ?_⟩)
    | (refine And.intro (by simp only [lens_all, its_len]; first | done | omega) ?_)
    | (refine And.intro (Nat.le_refl _) ?_)
    | fail
  all_goals
    show SV.bool _ = SV.bool _
    simp

def ir_spvec_Of_1 : IR :=
(.seq (.reg (⟨(some 2), .bx (.t 0), none⟩ ::⟨(some 3), .mv (.c (.bool false)), none⟩ :: [])) (.seq (.reg (⟨(some 4), .fa 0 (.t 2), none⟩ ::⟨(some 5), .ld 1 false (.t 4), none⟩ ::⟨(some 6), .ld 1 false (.t 1), none⟩ ::⟨(some 7), .bin .sub (.t 6) (.c (.int .i64 1)), none⟩ ::⟨(some 8), .call (.c (.fn 94 [])) [(.t 5), (.t 7)], none⟩ ::⟨(some 9), .un .not (.t 8), none⟩ ::⟨(some 3), .mv (.t 9), none⟩ :: [])) .ret))
theorem cd_spvec_Of_1 : Code1 Try.prog 102 10 ir_spvec_Of_1 [.t 3] := ⟨Try.call102, _, _, Try.func102, rfl, by kernel_rfl, by kernel_rfl, by kernel_rfl, by kernel_rfl⟩

theorem fs_of1 (n : Int) (x : Int × Int) (hn : 0 ≤ n ∧ n ≤ 4096) : FS Try.prog 102 [.agg [.int .i64 x.1, .int .i64 x.2], .box [.int .i64 n] 0] (.bool (!inN n x)) := by
  refine fs_of_cvc mixed cd_spvec_Of_1 (by simp) ?_
  have c1 := fs_vwithin x.1 (n - 1)
  have e1 : (decide (0 ≤ x.1) && decide (x.1 ≤ n - 1)) = inN n x := by
    unfold inN
    rw [Bool.eq_iff_iff]; simp; omega
  rw [e1] at c1
  generalize inN n x = b at *
  repeat' (conv => whnf); first
    | ((refine Or.inl ⟨by rfl, _, c1, ?_⟩))
    | (refine Br.tt ?_)
    | (refine Br.ff ?_)
    | (refine Br.dec (fun h => ?_) (fun h => ?_)) <;> try (exfalso; omega)
    | (refine Br.neg ?_)
    | (refine Br.mk (fun h => ?_) (fun h => ?_))
    | (refine And.intro rfl ?_)
    | (refine And.intro (by omega) ?_)
    | (refine ⟨_, Or.inl ⟨⟨by omega, by omega⟩, rfl⟩, ?_⟩)
    | (refine And.intro (by simp only [lens_all, its_len]; first | done | omega) ?_)
    | (refine And.intro (Nat.le_refl _) ?_)
    | fail
  all_goals first | exact rfl | exact ⟨rfl, trivial⟩ | exact trivial

theorem sm_mem {r : Int} {l : List (Int × Int)} : ∀ (i : Nat) (y : Int × Int), y ∈ sm r l i → ∃ x ∈ l, y.1 = x.1
  | 0, y, h => by cases h
  | i + 1, y, h => by
    cases hx : l[i]? with
    | none =>
      have hl : l.length ≤ i := List.getElem?_eq_none_iff.1 hx
      have e : sm r l (i + 1) = sm r l i := by unfold sm; rw [List.take_of_length_le (by omega), List.take_of_length_le hl]
      rw [e] at h
      exact sm_mem i y h
    | some x =>
      rw [sm_more hx] at h
      rcases putI_mem h with rfl | h
      · exact ⟨x, List.mem_of_getElem? hx, rfl⟩
      · exact sm_mem i y h
theorem sm_w {r : Int} {l : List (Int × Int)} (hb : Ib l) : ∀ (i : Nat) (y : Int × Int), y ∈ sm r l i → W128 y.2
  | 0, y, h => by cases h
  | i + 1, y, h => by
    cases hx : l[i]? with
    | none =>
      have hl : l.length ≤ i := List.getElem?_eq_none_iff.1 hx
      have e : sm r l (i + 1) = sm r l i := by unfold sm; rw [List.take_of_length_le (by omega), List.take_of_length_le hl]
      rw [e] at h
      exact sm_w hb i y h
    | some x =>
      rw [sm_more hx] at h
      rcases putI_mem h with rfl | h
      · exact smV_w (sm_w hb i) (hb.at hx).2
      · exact sm_w hb i y h

section
open Go.Maps Go.Sort
theorem yok_map {r : Int} {l : List (Int × Int)} {n0 : Nat} {A0 : Nat → Prop} (hl : l.length ≤ 1000000) (hA0 : ∀ b, A0 b → b < n0) :
    Yok Try.prog A0 { out := false, l := 0, xs := [], oth := ofOth 105 r l 105 134 } ⟨fun _ => False, mapX 3 r l n0 A0⟩ where
  stab := fun g w A β M ks w2 A2 β2 H2 hX hcur => by
    cases g with
    | none => exact Nat.le_trans (show n0 ≤ w.heap.size from hX) hcur.frm.size
    | some n =>
      obtain ⟨h0, hA, hnb, D, hag, hown⟩ := hX
      have hlt := hown.lt
      refine ⟨h0, (hcur.agree _ hlt).2 hA, fun hm => ?_, D, hag, ownsMap_same hown (hcur.frm.keep _ hlt hnb)⟩
      obtain ⟨j, hj, he⟩ := List.getElem_of_mem hm
      exact hnb (hcur.fresh j _ (by simp [hj, he]) hlt)
  names := fun g w A β β2 _ hs hX => by
    cases g with
    | none => exact hX
    | some n =>
      obtain ⟨h0, hA, hnb, D, hag, hown⟩ := hX
      exact ⟨h0, hA, fun hm => hnb (hs _ hm).1, D, hag, hown⟩
  wide := fun _ h => absurd rfl h
  yld := fun i x us w A β h => by simp at h
  oth := fun o op e H T hcop hT g R hTR w A β a hX hfin hW henv => by
    have hnm : ∀ b, some b ∈ β → A b := fun b hb => by
      obtain ⟨j, hj, he⟩ := List.getElem_of_mem hb
      exact (hW.own j b (by simp [hj, he])).1
    simp only [ofOth] at hT
    split at hT
    · rename_i o'
      obtain rfl := cop_oth hcop
      split at hT
      · rename_i t hop
        cases hT
        obtain ⟨rfl, hR⟩ := hTR
        exact oth_make hA0 hfin hnm hop hX hR
      · rename_i t m x ok hop
        split at hT
        · cases hT
        · rename_i ht
          obtain rfl : t = 105 := by simpa using ht
          cases hT
          obtain ⟨mb, i, key, hm, hx, hk, hile, rfl, hR⟩ := hTR
          exact oth_look Try.underlying3 Try.underlying105 (fun w => Try.zeroValue107 w) hfin henv hop hm hx hk hile hX hR
      · rename_i t m x v hop
        split at hT
        · cases hT
        · rename_i ht
          obtain rfl : t = 105 := by simpa using ht
          cases hT
          obtain ⟨mb, i, y, hm, hy, hk, hx, hv, rfl, hR⟩ := hTR
          exact oth_store Try.underlying3 Try.underlying105 hfin henv hop hl hm hy hk hx hv hX hR
      · cases hT
    · rename_i f xs
      split at hT
      · rename_i g0 hf
        split at hT
        · rename_i hg
          subst hg
          cases hT
          obtain ⟨mb, i, k, hxs, hH, hile, rfl, hR⟩ := hTR
          exact oth_sorted hfin hW henv hcop hf hl hxs hH hile hX hR
        · cases hT
      · cases hT
    · cases hT
end
end
section
open Go.RowKit
attribute [local irreducible] FS FO IT HS

theorem zs_gi {l : List Int} {q i : Nat} {y : Int} {K : List SV → Prop} (hq : q = i) (h : l[i]? = some y) (hK : K [.int .i64 y]) : ∀ x, (zs l)[q]? = some x → K x := fun x hx => by
  subst hq
  obtain ⟨z, hz, rfl⟩ := zs_get hx
  rw [h] at hz; cases hz; exact hK

def nvL (A : List (Int × Int)) : List (Int × Int) := A.map fun x => (x.1, nar x.2)
theorem nvL_len (A : List (Int × Int)) : (nvL A).length = A.length := by simp [nvL]

noncomputable def ir_spvec_Of : IR :=
(.seq (.reg (⟨(some 4), .bx (.t 1), none⟩ ::⟨(some 6), .al [.int .i64 0, .nils], none⟩ ::⟨(some 7), .mv (.c (.int .i64 0)), none⟩ :: [])) (.seq (.seq (.reg (⟨(some 19), .mv (.t 0), none⟩ ::⟨(some 20), .call (.c (.fn 100 [])) [(.t 19)], none⟩ ::⟨(some 21), .un .not (.t 20), none⟩ :: [])) (.cond (.t 21) (.seq (.reg (⟨(some 22), .bld [.int .i64 0, .nils] [], none⟩ ::⟨none, .st 2 (.t 6) (.t 22), none⟩ ::⟨(some 7), .mv (.c (.int .i64 8)), none⟩ :: [])) .ret) .skip)) (.seq (.seq (.reg (⟨(some 23), .ld 1 false (.t 4), none⟩ ::⟨(some 24), .call (.c (.fn 94 [])) [(.t 23), (.c (.int .i64 4096))], none⟩ ::⟨(some 25), .un .not (.t 24), none⟩ ::⟨(some 26), .mv (.t 25), none⟩ ::⟨(some 27), .mv (.t 2), some (26, false)⟩ ::⟨(some 28), .fn 102 [(.t 4)], some (26, false)⟩ ::⟨(some 29), .call (.c (.fn 101 [])) [(.t 27), (.t 28)], some (26, false)⟩ ::⟨(some 30), .pick (.t 26) (.c (.bool true)) (.t 29), none⟩ :: [])) (.cond (.t 30) (.seq (.reg (⟨(some 31), .bld [.int .i64 0, .nils] [], none⟩ ::⟨none, .st 2 (.t 6) (.t 31), none⟩ ::⟨(some 7), .mv (.c (.int .i64 3)), none⟩ :: [])) .ret) .skip)) (.seq (.reg (⟨(some 32), .oth (opAt Try.f49 20), none⟩ ::⟨(some 8), .mv (.t 32), none⟩ :: [])) (.seq (.seq (.reg (⟨(some 33), .mv (.t 2), none⟩ ::⟨(some 34), .ln (.t 33), none⟩ ::⟨(some 35), .mv (.c (.int .i64 0)), none⟩ :: [])) (.block 0 (.loop (.seq (.reg (⟨(some 36), .bin .lss (.t 35) (.t 34), none⟩ :: [])) (.seq (.cond (.t 36) .skip (.exit 0)) (.seq (.block 1 (.seq (.reg (⟨(some 37), .ia 2 (.t 33) (.t 35), none⟩ ::⟨(some 38), .ld 2 true (.t 37), none⟩ ::⟨(some 10), .al [.int .i64 0, .int .i64 0], none⟩ ::⟨none, .st 2 (.t 10) (.t 38), none⟩ :: [])) (.seq (.reg (⟨(some 39), .fa 1 (.t 10), none⟩ ::⟨(some 40), .ld 1 false (.t 39), none⟩ ::⟨(some 41), .call (.c (.fn 103 [])) [(.t 40)], none⟩ ::⟨(some 11), .al [.int .i64 0, .int .u64 0], none⟩ ::⟨none, .st 2 (.t 11) (.t 41), none⟩ :: [])) (.seq (.seq (.reg (⟨(some 43), .mv (.t 8), none⟩ ::⟨(some 44), .fa 0 (.t 10), none⟩ ::⟨(some 45), .ld 1 false (.t 44), none⟩ ::⟨(some 46), .oth (opAt Try.f49 38), none⟩ ::⟨(some 42), .mv (.t 46), none⟩ ::⟨(some 47), .ex 0 (.t 42), none⟩ ::⟨(some 48), .ex 1 (.t 42), none⟩ ::⟨(some 12), .al [.int .i64 0, .int .u64 0], none⟩ ::⟨none, .st 2 (.t 12) (.t 47), none⟩ ::⟨(some 13), .mv (.t 48), none⟩ :: [])) (.seq (.reg (⟨(some 49), .mv (.t 13), none⟩ :: [])) (.cond (.t 49) (.reg (⟨(some 50), .mv (.t 0), none⟩ ::⟨(some 51), .ld 2 true (.t 12), none⟩ ::⟨(some 52), .ld 2 true (.t 11), none⟩ ::⟨(some 53), .call (.c (.fn 104 [])) [(.t 50), (.t 51), (.t 52)], none⟩ ::⟨none, .st 2 (.t 11) (.t 53), none⟩ :: [])) .skip))) (.reg (⟨(some 54), .mv (.t 8), none⟩ ::⟨(some 55), .fa 0 (.t 10), none⟩ ::⟨(some 56), .ld 1 false (.t 55), none⟩ ::⟨(some 57), .ld 2 true (.t 11), none⟩ ::⟨none, .oth (opAt Try.f49 55), none⟩ :: [])))))) (.reg (⟨(some 58), .bin .add (.t 35) (.c (.int .i64 1)), none⟩ ::⟨(some 35), .mv (.t 58), none⟩ :: [])))))))) (.seq (.reg (⟨(some 59), .ld 1 false (.t 4), none⟩ ::⟨(some 60), .bld [.int .i64 0, .nils] [(0, 1, (.t 59))], none⟩ ::⟨(some 14), .al [.int .i64 0, .nils], none⟩ ::⟨none, .st 2 (.t 14) (.t 60), none⟩ :: [])) (.seq (.seq (.reg (⟨(some 61), .mv (.t 8), none⟩ ::⟨(some 62), .call (.c (.fn 106 [])) [(.t 61)], none⟩ ::⟨(some 63), .call (.c (.fn 105 [])) [(.t 62)], none⟩ ::⟨(some 64), .ln (.t 63), none⟩ ::⟨(some 65), .mv (.c (.int .i64 0)), none⟩ :: [])) (.block 2 (.loop (.seq (.reg (⟨(some 66), .bin .lss (.t 65) (.t 64), none⟩ :: [])) (.seq (.cond (.t 66) .skip (.exit 2)) (.seq (.block 3 (.seq (.reg (⟨(some 67), .ia 1 (.t 63) (.t 65), none⟩ ::⟨(some 68), .ld 1 false (.t 67), none⟩ ::⟨(some 16), .mv (.t 68), none⟩ :: [])) (.seq (.reg (⟨(some 70), .mv (.t 0), none⟩ ::⟨(some 71), .mv (.t 8), none⟩ ::⟨(some 72), .mv (.t 16), none⟩ ::⟨(some 73), .oth (opAt Try.f49 74), none⟩ ::⟨(some 74), .call (.c (.fn 107 [])) [(.t 70), (.t 73)], none⟩ ::⟨(some 69), .mv (.t 74), none⟩ ::⟨(some 75), .ex 0 (.t 69), none⟩ ::⟨(some 76), .ex 1 (.t 69), none⟩ ::⟨(some 17), .mv (.t 75), none⟩ ::⟨(some 18), .mv (.t 76), none⟩ :: [])) (.seq (.seq (.reg (⟨(some 77), .mv (.t 18), none⟩ ::⟨(some 78), .un .not (.t 77), none⟩ :: [])) (.cond (.t 78) (.seq (.reg (⟨(some 79), .bld [.int .i64 0, .nils] [], none⟩ ::⟨none, .st 2 (.t 6) (.t 79), none⟩ ::⟨(some 7), .mv (.c (.int .i64 12)), none⟩ :: [])) .ret) .skip)) (.reg (⟨(some 80), .fa 1 (.t 14), none⟩ ::⟨(some 81), .ld 1 false (.t 80), none⟩ ::⟨(some 82), .mv (.t 16), none⟩ ::⟨(some 83), .mv (.t 17), none⟩ ::⟨(some 84), .bld [.int .i64 0, .int .i64 0] [(0, 1, (.t 82)), (1, 1, (.t 83))], none⟩ ::⟨(some 85), .bsl 1 2 [.int .i64 0, .int .i64 0] [(0, (.t 84))], none⟩ ::⟨(some 86), .ap 2 16 (.t 81) (.t 85), none⟩ ::⟨(some 87), .fa 1 (.t 14), none⟩ ::⟨none, .st 1 (.t 87) (.t 86), none⟩ :: [])))))) (.reg (⟨(some 88), .bin .add (.t 65) (.c (.int .i64 1)), none⟩ ::⟨(some 65), .mv (.t 88), none⟩ :: [])))))))) (.seq (.reg (⟨(some 89), .ld 2 true (.t 14), none⟩ ::⟨none, .st 2 (.t 6) (.t 89), none⟩ ::⟨(some 7), .mv (.c (.int .i64 0)), none⟩ :: [])) .ret))))))))
theorem cd_spvec_Of : Code1 Try.prog 49 90 ir_spvec_Of [.c 2 true 6, .t 7] := ⟨Try.call49, _, _, Try.func49, rfl, by kernel_rfl, by kernel_rfl, by kernel_rfl, by kernel_rfl⟩

set_option maxHeartbeats 8000000 in
theorem fs_vOf (r n : Int) (l : List (Int × Int)) (hl : l.length ≤ 1000000) (hb : Ib l) : FS Try.prog 49 [.int .i64 r, .int .i64 n, IL l] (VE (ofR r n l)) := by
  refine fs_of_cvcY (y := { out := false, l := 0, xs := [], oth := ofOth 105 r l 105 134 }) mixed cd_spvec_Of (by simp) (fun n0 A => ⟨fun _ => False, mapX 3 r l n0 A⟩) (fun _ _ _ h => h) (fun n0 A hA => yok_map hl hA) (fun A w => Nat.le_refl _) ?_
  have c1 := fs_Is r
  have hll := its_len l
  cases hR : isR r with
  | false =>
    have e : ofR r n l = (0, [], 8) := by unfold ofR; rw [hR]; rfl
    rw [e]
    rw [hR] at c1
    repeat' (conv => whnf); first
      | ((refine Or.inl ⟨by rfl, _, c1, ?_⟩))
      | ((refine Br.beq (by rfl) ?_))
      | ((refine Br.bne (by rfl) ?_))
      | ((refine And.intro (Or.inl (Nat.zero_le _)) ?_))
      | ((refine And.intro (show _ ≤ _ from Nat.le_of_ble_eq_true rfl) ?_))
      | ((refine And.intro (by intro y hy; simp at hy; subst hy; rfl) ?_))
      | (refine Br.tt ?_)
      | (refine Br.ff ?_)
      | (refine Br.dec (fun h => ?_) (fun h => ?_)) <;> try (exfalso; omega)
      | (refine Br.neg ?_)
      | (refine Br.mk (fun h => ?_) (fun h => ?_))
      | (refine And.intro rfl ?_)
      | (refine And.intro (by omega) ?_)
      | (refine ⟨_, Or.inl ⟨⟨by omega, by omega⟩, rfl⟩, ?_⟩)
      | (refine And.intro (by simp only []; first | done | omega) ?_)
      | (refine And.intro (Nat.le_refl _) ?_)
      | fail
    all_goals first | exact rfl | exact ⟨⟨rfl, rfl, trivial⟩, rfl, trivial⟩
  | true =>
    rw [hR] at c1
    have c2 := fs_vwithin n 4096
    by_cases hn : 0 ≤ n ∧ n ≤ 4096
    · have en : (decide (0 ≤ n) && decide (n ≤ 4096)) = true := by simp [hn.1, hn.2]
      rw [en] at c2
      have c3 := fs_ContainsFn 102 [.box [.int .i64 n] 0] (fun x => !inN n x) l (by omega) (fun _ _ => rfl) fun x _ => fs_of1 n x hn
      cases hi : l.any fun x => !inN n x with
      | true =>
        have e : ofR r n l = (0, [], 3) := by
          unfold ofR
          rw [if_pos hR, if_pos hn, if_neg]
          intro h
          obtain ⟨x, hx, hx2⟩ := List.any_eq_true.1 hi
          rw [List.all_eq_true.1 h x hx] at hx2; cases hx2
        rw [e]
        rw [hi] at c3
        repeat' (conv => whnf); first
          | ((refine Or.inl ⟨by rfl, _, c1, ?_⟩))
          | ((refine Or.inl ⟨by rfl, _, c2, ?_⟩))
          | ((refine Or.inr (Or.inr (Or.inl ⟨_, c3, rfl, ?_⟩))))
          | ((refine Br.beq (by rfl) ?_))
          | ((refine Br.bne (by rfl) ?_))
          | ((refine And.intro (Or.inl (Nat.zero_le _)) ?_))
          | ((refine And.intro (show _ ≤ _ from Nat.le_of_ble_eq_true rfl) ?_))
          | ((refine And.intro (by intro y hy; simp at hy; subst hy; rfl) ?_))
          | (refine Br.tt ?_)
          | (refine Br.ff ?_)
          | (refine Br.dec (fun h => ?_) (fun h => ?_)) <;> try (exfalso; omega)
          | (refine Br.neg ?_)
          | (refine Br.mk (fun h => ?_) (fun h => ?_))
          | (refine And.intro rfl ?_)
          | (refine And.intro (by omega) ?_)
          | (refine ⟨_, Or.inl ⟨⟨by omega, by omega⟩, rfl⟩, ?_⟩)
          | (refine And.intro (by simp only []; first | done | omega) ?_)
          | (refine And.intro (Nat.le_refl _) ?_)
          | fail
        all_goals first | exact rfl | exact ⟨⟨rfl, rfl, trivial⟩, rfl, trivial⟩
      | false =>
        have hall : l.all (inN n) = true := List.all_eq_true.2 fun x hx => by
          have := List.any_eq_false.1 hi x hx
          simpa using this
        rw [ofR_sm r n l hR hn hall]
        rw [hi] at c3
        repeat' (conv => whnf); first
          | ((refine Or.inl ⟨by rfl, _, c1, ?_⟩))
          | ((refine Or.inl ⟨by rfl, _, c2, ?_⟩))
          | ((refine Or.inr (Or.inr (Or.inl ⟨_, c3, rfl, ?_⟩))))
          | ((refine fun mb => ?_))
          | ((refine Br.beq (by rfl) ?_))
          | ((refine Br.bne (by rfl) ?_))
          | ((refine And.intro (Or.inl (Nat.zero_le _)) ?_))
          | ((refine And.intro (show _ ≤ _ from Nat.le_of_ble_eq_true rfl) ?_))
          | ((refine And.intro (by intro y hy; simp at hy; subst hy; rfl) ?_))
          | (refine Br.tt ?_)
          | (refine Br.ff ?_)
          | (refine Br.dec (fun h => ?_) (fun h => ?_)) <;> try (exfalso; omega)
          | (refine Br.neg ?_)
          | (refine Br.mk (fun h => ?_) (fun h => ?_))
          | (refine And.intro rfl ?_)
          | (refine And.intro (by omega) ?_)
          | (refine ⟨_, Or.inl ⟨⟨by omega, by omega⟩, rfl⟩, ?_⟩)
          | (refine And.intro (by simp only [lens_all, its_len, zs_len]; first | done | omega) ?_)
          | (refine And.intro (Nat.le_refl _) ?_)
          | fail
        have hn0 := hn.1
        have hn1 := hn.2
        refine ⟨Nat, fun k => k ≤ l.length, fun k => [(0, .int .i64 r), (2, IL l), (4, .ptr 0 0 0 0), (6, .ptr 1 0 0 0), (8, .raw (.map (some mb))), (33, IL l), (34, .int .i64 (l.length : Int)), (35, .int .i64 (k : Int))], fun k => [.vars [.int .i64 n], .vars [.int .i64 0, .nils]], fun k => some (mb * (l.length + 2) + k), fun k => l.length - k,
          ⟨0, Nat.zero_le _, ⟨rfl, rfl, rfl, rfl, rfl, rfl, ?_, rfl, trivial⟩, ⟨⟨rfl, trivial⟩, ⟨rfl, rfl, trivial⟩, trivial⟩, rfl⟩, fun k hk => ?_⟩
        · exact congrArg (SV.int .i64) (congrArg Int.ofNat hll)
        have hk : k ≤ l.length := hk
        by_cases hkl : k < l.length
        · obtain ⟨x, hx⟩ : ∃ x, l.getD k (0, 0) = x := ⟨_, rfl⟩
          have hget : l[k]? = some x := by rw [← hx]; exact getD_some hkl
          have hxb := hb.at hget
          have c4 := fs_wOf x.2 hxb.2
          cases ho : gt (sm r l k) x.1 with
          | none =>
            have hv : WN x.2 = WN (smV r (sm r l k) x) := by unfold smV; rw [ho]
            repeat' (conv => whnf); first
              | ((refine its_go' (i := k) (by omega) hx ?_))
              | ((refine Or.inl ⟨by rfl, _, c4, ?_⟩))
              | ((refine ⟨mb, k, x.1, rfl, rfl, hxb.1, hk, rfl, ?_⟩; rw [ho]))
              | ((refine ⟨mb, k, x, rfl, hget, hxb.1, rfl, hv, rfl, ?_⟩))
              | ((refine Br.beq (by rfl) ?_))
              | ((refine Br.bne (by rfl) ?_))
              | ((refine And.intro (Or.inl (Nat.zero_le _)) ?_))
              | ((refine And.intro (show _ ≤ _ from Nat.le_of_ble_eq_true rfl) ?_))
              | ((refine And.intro (by intro y hy; simp at hy; subst hy; rfl) ?_))
              | (refine Br.tt ?_)
              | (refine Br.ff ?_)
              | (refine Br.dec (fun h => ?_) (fun h => ?_)) <;> try (exfalso; omega)
              | (refine Br.neg ?_)
              | (refine Br.mk (fun h => ?_) (fun h => ?_))
              | (refine And.intro rfl ?_)
              | (refine And.intro (by omega) ?_)
              | (refine ⟨_, Or.inl ⟨⟨by omega, by omega⟩, rfl⟩, ?_⟩)
              | (refine And.intro (by simp only [lens_all, its_len, zs_len]; first | done | omega) ?_)
              | (refine And.intro (Nat.le_refl _) ?_)
              | fail
            exact ⟨k + 1, (show k + 1 ≤ l.length by omega), (show l.length - (k + 1) < l.length - k by omega), ⟨rfl, rfl, rfl, rfl, rfl, rfl, rfl, rfl, trivial⟩, ⟨⟨rfl, trivial⟩, ⟨rfl, rfl, trivial⟩, ⟨Nat.le_of_ble_eq_true rfl, rfl, rfl⟩⟩, rfl⟩
          | some s =>
            have hs : W128 s := sm_w hb k _ (gt_mem ho)
            have c5 := fs_rAdd r s x.2 hs (W64i hxb.2)
            have hv : WN (rAdd r s x.2) = WN (smV r (sm r l k) x) := by unfold smV; rw [ho]
            repeat' (conv => whnf); first
              | ((refine its_go' (i := k) (by omega) hx ?_))
              | ((refine Or.inl ⟨by rfl, _, c4, ?_⟩))
              | ((refine Or.inl ⟨by rfl, _, c5, ?_⟩))
              | ((refine ⟨mb, k, x.1, rfl, rfl, hxb.1, hk, rfl, ?_⟩; rw [ho]))
              | ((refine ⟨mb, k, x, rfl, hget, hxb.1, rfl, hv, rfl, ?_⟩))
              | ((refine Br.beq (by rfl) ?_))
              | ((refine Br.bne (by rfl) ?_))
              | ((refine And.intro (Or.inl (Nat.zero_le _)) ?_))
              | ((refine And.intro (show _ ≤ _ from Nat.le_of_ble_eq_true rfl) ?_))
              | ((refine And.intro (by intro y hy; simp at hy; subst hy; rfl) ?_))
              | (refine Br.tt ?_)
              | (refine Br.ff ?_)
              | (refine Br.dec (fun h => ?_) (fun h => ?_)) <;> try (exfalso; omega)
              | (refine Br.neg ?_)
              | (refine Br.mk (fun h => ?_) (fun h => ?_))
              | (refine And.intro rfl ?_)
              | (refine And.intro (by omega) ?_)
              | (refine ⟨_, Or.inl ⟨⟨by omega, by omega⟩, rfl⟩, ?_⟩)
              | (refine And.intro (by simp only [lens_all, its_len, zs_len]; first | done | omega) ?_)
              | (refine And.intro (Nat.le_refl _) ?_)
              | fail
            exact ⟨k + 1, (show k + 1 ≤ l.length by omega), (show l.length - (k + 1) < l.length - k by omega), ⟨rfl, rfl, rfl, rfl, rfl, rfl, rfl, rfl, trivial⟩, ⟨⟨rfl, trivial⟩, ⟨rfl, rfl, trivial⟩, ⟨Nat.le_of_ble_eq_true rfl, rfl, rfl⟩⟩, rfl⟩
        · obtain rfl : k = l.length := by omega
          have ho := up_sm r l l.length
          have hw := sm_w (r := r) hb l.length
          have hle := sm_len r l l.length
          have hmem := sm_mem (r := r) (l := l) l.length
          have hlk : ∀ x : Int × Int, x ∈ sm r l l.length → gt (sm r l l.length) x.1 = some x.2 := fun x hx => gt_some ho hx
          obtain ⟨S, hS⟩ : ∃ S, sm r l l.length = S := ⟨_, rfl⟩
          rw [hS] at ho hw hle hmem hlk ⊢
          have hkl : (zs (S.map (·.1))).length = S.length := by rw [zs_len, List.length_map]
          repeat' (conv => whnf); first
            | ((refine Or.inr (Or.inl ⟨by rfl, _, _, fo_keys mb, ?_⟩)))
            | ((refine ⟨mb, l.length, 3, rfl, rfl, Nat.le_refl _, rfl, ?_⟩; rw [hS]))
            | ((refine Br.beq (by rfl) ?_))
            | ((refine Br.bne (by rfl) ?_))
            | ((refine And.intro (Or.inl (Nat.zero_le _)) ?_))
            | ((refine And.intro (show _ ≤ _ from Nat.le_of_ble_eq_true rfl) ?_))
            | ((refine And.intro (by intro y hy; simp at hy; subst hy; rfl) ?_))
            | (refine Br.tt ?_)
            | (refine Br.ff ?_)
            | (refine Br.dec (fun h => ?_) (fun h => ?_)) <;> try (exfalso; omega)
            | (refine Br.neg ?_)
            | (refine Br.mk (fun h => ?_) (fun h => ?_))
            | (refine And.intro rfl ?_)
            | (refine And.intro (by omega) ?_)
            | (refine ⟨_, Or.inl ⟨⟨by omega, by omega⟩, rfl⟩, ?_⟩)
            | (refine And.intro (by simp only [lens_all, its_len, zs_len]; first | done | omega) ?_)
            | (refine And.intro (Nat.le_refl _) ?_)
            | fail
          refine ⟨Nat, fun j => j ≤ S.length ∧ (S.take j).all (fun x => fits x.2) = true, fun j => [(0, .int .i64 r), (6, .ptr 1 0 0 0), (8, .raw (.map (some mb))), (14, .ptr 2 0 0 0), (63, Z (S.map (·.1))), (64, .int .i64 (S.length : Int)), (65, .int .i64 (j : Int))], fun j => [.vars [.int .i64 n], .vars [.int .i64 0, .nils], .vars [.int .i64 n, .osl 4 2 0 j], .vars [.raw (.map (some mb))], .arr 2 (its (nvL (S.take j)))], fun _ => some (mb * (l.length + 2) + l.length), fun j => S.length - j,
            ⟨0, ⟨Nat.zero_le _, rfl⟩, ⟨rfl, rfl, rfl, rfl, rfl, ?_, rfl, trivial⟩, ⟨⟨rfl, trivial⟩, ⟨rfl, rfl, trivial⟩, ⟨rfl, ⟨Nat.le_refl _, rfl, rfl⟩, trivial⟩, ⟨rfl, trivial⟩, rfl, trivial⟩, rfl⟩, fun j hj => ?_⟩
          · exact congrArg (SV.int .i64) (congrArg Int.ofNat hkl)
          obtain ⟨hj1, hj2⟩ := hj
          by_cases hjl : j < S.length
          · obtain ⟨a, ha⟩ : ∃ a, S[j]? = some a := ⟨_, List.getElem?_eq_getElem hjl⟩
            have ham := List.mem_of_getElem? ha
            have hky : (S.map (·.1))[j]? = some a.1 := by rw [List.getElem?_map, ha]; rfl
            have hga := hlk a ham
            obtain ⟨x, hx, hax⟩ := hmem a ham
            have hai : I64 a.1 := by rw [hax]; exact (hb x hx).1
            have c6 := fs_rNarrow r a.2 (hw a ham)
            have hst : S.take (j + 1) = S.take j ++ [a] := by rw [List.take_add_one, ha]; rfl
            cases hf : fits a.2 with
            | true =>
              rw [hf] at c6
              have hil : (its (nvL (S.take j))).length = j := by rw [its_len, nvL_len, List.length_take]; omega
              repeat' (conv => whnf); first
                | ((refine zs_gi (i := j) (by omega) hky ?_))
                | ((refine ⟨mb, l.length, a.1, rfl, rfl, hai, Nat.le_refl _, rfl, ?_⟩; rw [hS, hga]))
                | ((refine Or.inl ⟨by rfl, _, c6, ?_⟩))
                | ((refine Br.beq (by rfl) ?_))
                | ((refine Br.bne (by rfl) ?_))
                | ((refine And.intro (Or.inl (Nat.zero_le _)) ?_))
                | ((refine And.intro (show _ ≤ _ from Nat.le_of_ble_eq_true rfl) ?_))
                | ((refine And.intro (by intro y hy; simp at hy; subst hy; rfl) ?_))
                | (refine Br.tt ?_)
                | (refine Br.ff ?_)
                | (refine Br.dec (fun h => ?_) (fun h => ?_)) <;> try (exfalso; omega)
                | (refine Br.neg ?_)
                | (refine Br.mk (fun h => ?_) (fun h => ?_))
                | (refine And.intro rfl ?_)
                | (refine And.intro (by omega) ?_)
                | (refine ⟨_, Or.inl ⟨⟨by omega, by omega⟩, rfl⟩, ?_⟩)
                | (refine And.intro (by simp only [lens_all]; first | done | omega) ?_)
                | (refine And.intro (Nat.le_refl _) ?_)
                | fail
              refine ⟨j + 1, ⟨by omega, by rw [hst, List.all_append, hj2]; simp [hf]⟩, (show S.length - (j + 1) < S.length - j by omega), ⟨rfl, rfl, rfl, rfl, rfl, rfl, rfl, trivial⟩, ⟨⟨rfl, trivial⟩, ⟨rfl, rfl, trivial⟩, ⟨rfl, rfl, trivial⟩, ⟨rfl, trivial⟩, ?_, trivial⟩, rfl⟩
              refine congrArg (Blk.arr 2) ?_
              rw [hst]
              unfold nvL
              rw [List.map_append, its_append]; rfl
            | false =>
              have e : smE r n S = (0, [], 12) := by
                unfold smE
                rw [if_neg]
                intro h
                have := List.all_eq_true.1 h a ham
                rw [hf] at this; cases this
              rw [hf] at c6
              rw [e]
              repeat' (conv => whnf); first
                | ((refine zs_gi (i := j) (by omega) hky ?_))
                | ((refine ⟨mb, l.length, a.1, rfl, rfl, hai, Nat.le_refl _, rfl, ?_⟩; rw [hS, hga]))
                | ((refine Or.inl ⟨by rfl, _, c6, ?_⟩))
                | ((refine Br.beq (by rfl) ?_))
                | ((refine Br.bne (by rfl) ?_))
                | ((refine And.intro (Or.inl (Nat.zero_le _)) ?_))
                | ((refine And.intro (show _ ≤ _ from Nat.le_of_ble_eq_true rfl) ?_))
                | ((refine And.intro (by intro y hy; simp at hy; subst hy; rfl) ?_))
                | (refine Br.tt ?_)
                | (refine Br.ff ?_)
                | (refine Br.dec (fun h => ?_) (fun h => ?_)) <;> try (exfalso; omega)
                | (refine Br.neg ?_)
                | (refine Br.mk (fun h => ?_) (fun h => ?_))
                | (refine And.intro rfl ?_)
                | (refine And.intro (by omega) ?_)
                | (refine ⟨_, Or.inl ⟨⟨by omega, by omega⟩, rfl⟩, ?_⟩)
                | (refine And.intro (by simp only []; first | done | omega) ?_)
                | (refine And.intro (Nat.le_refl _) ?_)
                | fail
              exact ⟨⟨rfl, rfl, trivial⟩, rfl, trivial⟩
          · obtain rfl : j = S.length := by omega
            have et : S.take S.length = S := List.take_length
            rw [et] at hj2
            have e : smE r n S = (n, nvL S, 0) := by
              unfold smE
              rw [if_pos hj2]; rfl
            rw [e]
            repeat' (conv => whnf); first
              | ((refine Br.beq (by rfl) ?_))
              | ((refine Br.bne (by rfl) ?_))
              | ((refine And.intro (Or.inl (Nat.zero_le _)) ?_))
              | ((refine And.intro (show _ ≤ _ from Nat.le_of_ble_eq_true rfl) ?_))
              | ((refine And.intro (by intro y hy; simp at hy; subst hy; rfl) ?_))
              | (refine Br.tt ?_)
              | (refine Br.ff ?_)
              | (refine Br.dec (fun h => ?_) (fun h => ?_)) <;> try (exfalso; omega)
              | (refine Br.neg ?_)
              | (refine Br.mk (fun h => ?_) (fun h => ?_))
              | (refine And.intro rfl ?_)
              | (refine And.intro (by omega) ?_)
              | (refine ⟨_, Or.inl ⟨⟨by omega, by omega⟩, rfl⟩, ?_⟩)
              | (refine And.intro (by simp only [its_len]; first | done | omega) ?_)
              | (refine And.intro (Nat.le_refl _) ?_)
              | fail
            conv => whnf
            have hil : (its (nvL S)).length = S.length := by rw [its_len, nvL_len]
            rw [et]
            first
              | (rw [frz_len (nvL_len S).symm]; rfl)
              | (refine ⟨by omega, ?_⟩; conv => whnf; rw [frz_len (nvL_len S).symm])
            all_goals exact rfl
    · have en : (decide (0 ≤ n) && decide (n ≤ 4096)) = false := by
        rw [Bool.and_eq_false_iff]; simp; omega
      have e : ofR r n l = (0, [], 3) := by unfold ofR; rw [if_pos hR, if_neg hn]
      rw [e]
      rw [en] at c2
      repeat' (conv => whnf); first
        | ((refine Or.inl ⟨by rfl, _, c1, ?_⟩))
        | ((refine Or.inl ⟨by rfl, _, c2, ?_⟩))
        | ((refine Br.beq (by rfl) ?_))
        | ((refine Br.bne (by rfl) ?_))
        | ((refine And.intro (Or.inl (Nat.zero_le _)) ?_))
        | ((refine And.intro (show _ ≤ _ from Nat.le_of_ble_eq_true rfl) ?_))
        | ((refine And.intro (by intro y hy; simp at hy; subst hy; rfl) ?_))
        | (refine Br.tt ?_)
        | (refine Br.ff ?_)
        | (refine Br.dec (fun h => ?_) (fun h => ?_)) <;> try (exfalso; omega)
        | (refine Br.neg ?_)
        | (refine Br.mk (fun h => ?_) (fun h => ?_))
        | (refine And.intro rfl ?_)
        | (refine And.intro (by omega) ?_)
        | (refine ⟨_, Or.inl ⟨⟨by omega, by omega⟩, rfl⟩, ?_⟩)
        | (refine And.intro (by simp only []; first | done | omega) ?_)
        | (refine And.intro (Nat.le_refl _) ?_)
        | fail
      all_goals first | exact rfl | exact ⟨⟨rfl, rfl, trivial⟩, rfl, trivial⟩
end
end Go.Proofs.Ytahpfomabgfmkaa
