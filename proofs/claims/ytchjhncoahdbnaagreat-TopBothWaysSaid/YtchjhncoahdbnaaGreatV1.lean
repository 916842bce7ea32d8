/- Sparse vectors: which are right. Sparse vectors: where a place stands. Sparse vectors: the value at a place; copies. Sparse vectors: without some items. Sparse vectors: at places of a set; without a place. Two sparse vectors: the places of both. What comes of two sparse vectors, place by place. Two sparse vectors: the program's functions. Two sparse vectors, place by place: in plain words. -/
import Derived.Test.YtchjhncoahdbnaaGreatW2
import Derived.Test.YtchjhncoahdbnaaGreatF2
namespace Go.Proofs.YtchjhncoahdbnaaGreat
section
open Go.RowKit
attribute [local irreducible] FS FO IT HS
def its (l : List (Int × Int)) : List (List SV) := l.map fun x => [.int .i64 x.1, .int .i64 x.2]
def IL (l : List (Int × Int)) : SV := .slc 2 (its l)
def VC (n : Int) (l : List (Int × Int)) : SV := .agg [.int .i64 n, IL l]
theorem its_len (l : List (Int × Int)) : (its l).length = l.length := by simp [its]
theorem its_get {l : List (Int × Int)} {k : Nat} {x : List SV} (h : (its l)[k]? = some x) : ∃ y, l[k]? = some y ∧ x = [.int .i64 y.1, .int .i64 y.2] := by
  simp only [its, List.getElem?_map, Option.map_eq_some_iff] at h
  obtain ⟨y, h1, h2⟩ := h
  exact ⟨y, h1, h2.symm⟩
def Ib (l : List (Int × Int)) : Prop := ∀ x ∈ l, I64 x.1 ∧ I64 x.2
theorem Ib.at {l : List (Int × Int)} (h : Ib l) {k : Nat} {y : Int × Int} (hk : l[k]? = some y) : I64 y.1 ∧ I64 y.2 := h y (List.mem_of_getElem? hk)
def ups (n : Int) : Int → List (Int × Int) → Bool
  | _, [] => true
  | l, x :: xs => !(decide (x.1 ≤ l) || decide (n ≤ x.1)) && ups n x.1 xs
def badAt (n : Int) : Int → List (Int × Int) → Nat → Int
  | _, [], _ => -1
  | l, x :: xs, k => if (decide (x.1 ≤ l) || decide (n ≤ x.1)) = true then k else badAt n x.1 xs (k + 1)
theorem badAt_ups (n : Int) : ∀ (xs : List (Int × Int)) (l : Int) (k : Nat), decide (0 ≤ badAt n l xs k) = !ups n l xs
  | [], l, k => rfl
  | x :: xs, l, k => by
    simp only [badAt, ups]
    split
    · rename_i h; rw [h]; simp
    · rename_i h; rw [badAt_ups n xs]; simp only [Bool.not_eq_true] at h; rw [h]; rfl
def isV (n : Int) (l : List (Int × Int)) : Bool := decide (0 ≤ n) && decide (n ≤ 4096) && ups n (-1) l
def ir_spvec_within : IR :=
(.seq (.reg (⟨some 4, .mv (.c (.bool false)), none⟩ :: [])) (.seq (.reg (⟨some 5, .mv (.t 0), none⟩ ::⟨some 6, .bin .geq (.t 5) (.c (.int .i64 0)), none⟩ ::⟨some 7, .mv (.t 6), none⟩ ::⟨some 8, .mv (.t 0), some (7, true)⟩ ::⟨some 9, .mv (.t 1), some (7, true)⟩ ::⟨some 10, .bin .leq (.t 8) (.t 9), some (7, true)⟩ ::⟨some 11, .pick (.t 7) (.t 10) (.c (.bool false)), none⟩ ::⟨some 4, .mv (.t 11), none⟩ :: [])) .ret))
theorem cd_spvec_within : Code1 Tryz.prog 61 12 ir_spvec_within [.t 4] := ⟨Tryz.call61, _, _, Tryz.func61, rfl, by kernel_rfl, by kernel_rfl, by kernel_rfl, by kernel_rfl⟩
theorem fs_vwithin (n m : Int) : FS Tryz.prog 61 [.int .i64 n, .int .i64 m] (.bool (decide (0 ≤ n) && decide (n ≤ m))) := by
  refine fs_of_cvc mixed cd_spvec_within (by simp) ?_
  repeat' (conv => whnf); first |((refine fun x hx => ?_); (obtain ⟨y, hy, rfl⟩ := its_get hx; clear hx)) | refine Br.tt ?_ | refine Br.ff ?_ |(refine Br.dec (fun h=>?_) (fun h=>?_)) <;> try (exfalso; omega) | refine Br.neg ?_ |(refine Br.mk (fun h=>?_) (fun h=>?_)) | refine And.intro rfl ?_ |(refine And.intro (by omega) ?_) |(refine ⟨_, Or.inl ⟨⟨by omega, by omega⟩, rfl⟩, ?_⟩) |(refine And.intro (by simp only [lens_all, its_len]; first | done | omega) ?_) |(refine And.intro (Nat.le_refl _) ?_) | fail
  all_goals (show SV.bool _ = SV.bool _; simp [*])
def ir_spvec_Right_1 : IR :=
(.seq (.reg (⟨some 3, .bx (.t 0), none⟩ ::⟨some 4, .mv (.c (.bool false)), none⟩ :: [])) (.seq (.reg (⟨some 6, .fa 0 (.t 3), none⟩ ::⟨some 7, .ld 1 false (.t 6), none⟩ ::⟨some 8, .ld 1 false (.t 1), none⟩ ::⟨some 9, .bin .leq (.t 7) (.t 8), none⟩ ::⟨some 10, .mv (.t 9), none⟩ ::⟨some 11, .fa 0 (.t 3), some (10, false)⟩ ::⟨some 12, .ld 1 false (.t 11), some (10, false)⟩ ::⟨some 13, .fa 0 (.t 2), some (10, false)⟩ ::⟨some 14, .ld 1 false (.t 13), some (10, false)⟩ ::⟨some 15, .bin .geq (.t 12) (.t 14), some (10, false)⟩ ::⟨some 16, .pick (.t 10) (.c (.bool true)) (.t 15), none⟩ ::⟨some 5, .mv (.t 16), none⟩ :: [])) (.seq (.reg (⟨some 17, .fa 0 (.t 3), none⟩ ::⟨some 18, .ld 1 false (.t 17), none⟩ ::⟨none, .st 1 (.t 1) (.t 18), none⟩ :: [])) (.seq (.reg (⟨some 19, .mv (.t 5), none⟩ ::⟨some 4, .mv (.t 19), none⟩ :: [])) .ret))))
theorem cd_spvec_Right_1 : Code1 Tryz.prog 63 20 ir_spvec_Right_1 [.t 4] := ⟨Tryz.call63, _, _, Tryz.func63, rfl, by kernel_rfl, by kernel_rfl, by kernel_rfl, by kernel_rfl⟩
theorem hs_Right1 (n last p v : Int) (l : List (Int × Int)) : HS Tryz.prog 63 [.agg [.int .i64 p, .int .i64 v], .ptr 1 0 0 0, .ptr 0 0 0 0] [.vars [.int .i64 n, IL l], .vars [.int .i64 last]] (.bool (decide (p ≤ last) || decide (n ≤ p))) [.vars [.int .i64 n, IL l], .vars [.int .i64 p]] [] := by
  refine hs_of_cvc mixed cd_spvec_Right_1 (by simp) ?_
  repeat' (conv => whnf); first |((refine fun x hx => ?_); (obtain ⟨y, hy, rfl⟩ := its_get hx; clear hx)) | refine Br.tt ?_ | refine Br.ff ?_ |(refine Br.dec (fun h=>?_) (fun h=>?_)) <;> try (exfalso; omega) | refine Br.neg ?_ |(refine Br.mk (fun h=>?_) (fun h=>?_)) | refine And.intro rfl ?_ |(refine And.intro (by omega) ?_) |(refine ⟨_, Or.inl ⟨⟨by omega, by omega⟩, rfl⟩, ?_⟩) |(refine And.intro (by simp only [lens_all]; first | done | omega) ?_) |(refine And.intro (Nat.le_refl _) ?_) | fail
  all_goals exact ⟨by show SV.bool _ = SV.bool _; simp [h], ⟨rfl, rfl, trivial⟩, ⟨rfl, trivial⟩, Nat.le_refl _, rfl, rfl⟩
def lst (last : Int) (l : List (Int × Int)) : Nat → Int
  | 0 => last
  | k + 1 => (l.getD k (0, 0)).1
theorem badAt_step (n last : Int) (l : List (Int × Int)) (k : Nat) (y : Int × Int) (hk : l[k]? = some y) : badAt n (lst last l k) (l.drop k) k = if (decide (y.1 ≤ lst last l k) || decide (n ≤ y.1)) = true then (k : Int) else badAt n (lst last l (k + 1)) (l.drop (k + 1)) (k + 1) := by
  have hlt := (List.getElem?_eq_some_iff.1 hk).1
  have he := (List.getElem?_eq_some_iff.1 hk).2
  rw [List.drop_eq_getElem_cons hlt, he, badAt]
  have : lst last l (k + 1) = y.1 := by simp [lst, List.getD_eq_getElem?_getD, hk]
  rw [this]
def ir_slices_IndexFunc_api_Item_api_Item : IR :=
(.seq (.reg (⟨some 4, .mv (.c (.int .i64 0)), none⟩ :: [])) (.seq (.seq (.reg (⟨some 6, .mv (.t 0), none⟩ ::⟨some 7, .ln (.t 6), none⟩ ::⟨some 8, .mv (.c (.int .i64 0)), none⟩ :: [])) (.block 0 (.loop (.seq (.reg (⟨some 9, .bin .lss (.t 8) (.t 7), none⟩ :: [])) (.seq (.cond (.t 9) .skip (.exit 0)) (.seq (.block 1 (.seq (.reg (⟨some 10, .mv (.t 8), none⟩ ::⟨some 5, .mv (.t 10), none⟩ :: [])) (.seq (.reg (⟨some 11, .mv (.t 1), none⟩ ::⟨some 12, .mv (.t 0), none⟩ ::⟨some 13, .mv (.t 5), none⟩ ::⟨some 14, .ia 2 (.t 12) (.t 13), none⟩ ::⟨some 15, .ld 2 true (.t 14), none⟩ ::⟨some 16, .call (.t 11) [(.t 15)], none⟩ :: [])) (.cond (.t 16) (.seq (.reg (⟨some 17, .mv (.t 5), none⟩ ::⟨some 4, .mv (.t 17), none⟩ :: [])) .ret) .skip)))) (.reg (⟨some 18, .bin .add (.t 8) (.c (.int .i64 1)), none⟩ ::⟨some 8, .mv (.t 18), none⟩ :: [])))))))) (.seq (.reg (⟨some 4, .mv (.c (.int .i64 (-1))), none⟩ :: [])) .ret)))
theorem cd_slices_IndexFunc_api_Item_api_Item : Code1 Tryz.prog 98 19 ir_slices_IndexFunc_api_Item_api_Item [.t 4] := ⟨Tryz.call98, _, _, Tryz.func98, rfl, by kernel_rfl, by kernel_rfl, by kernel_rfl, by kernel_rfl⟩
theorem hs_Index (n last : Int) (l : List (Int × Int)) (hl : l.length ≤ 1000000000) : HS Tryz.prog 98 [IL l, .fn 63 [.ptr 1 0 0 0, .ptr 0 0 0 0]] [.vars [.int .i64 n, IL l], .vars [.int .i64 last]] (.int .i64 (badAt n last l 0)) [.dead, .dead] [] := by
  refine hs_of_cvc mixed cd_slices_IndexFunc_api_Item_api_Item (by simp) ?_
  refine ⟨Nat, fun k => k ≤ l.length ∧ badAt n (lst last l k) (l.drop k) k = badAt n last l 0, fun k => [(0, IL l), (1, .fn 63 [.ptr 1 0 0 0, .ptr 0 0 0 0]), (7, .int .i64 (l.length : Int)), (8, .int .i64 (k : Int))], fun k => [.vars [.int .i64 n, IL l], .vars [.int .i64 (lst last l k)]], fun _ => none, fun k => l.length - k, ⟨0, ⟨by omega, rfl⟩, ⟨rfl, rfl, ?_, rfl, trivial⟩, ⟨⟨rfl, rfl, trivial⟩, ⟨rfl, trivial⟩, trivial⟩, rfl⟩, fun k hk => ?_⟩
  · show SV.int .i64 _ = SV.int .i64 _
    rw [its_len]
  obtain ⟨hk1, hk2⟩ := hk
  repeat' (conv => whnf); first |(refine Or.inr (Or.inr (Or.inr (Or.inl ⟨_, _, [], hs_Right1 n (lst last l k) _ _ l, by simp, ?_⟩)))) |((refine fun x hx => ?_); (obtain ⟨y, hy, rfl⟩ := its_get hx; clear hx)) | refine Br.tt ?_ | refine Br.ff ?_ |(refine Br.dec (fun h=>?_) (fun h=>?_)) <;> try (exfalso; omega) | refine Br.neg ?_ |(refine Br.mk (fun h=>?_) (fun h=>?_)) | refine And.intro rfl ?_ |(refine And.intro (by omega) ?_) |(refine ⟨_, Or.inl ⟨⟨by omega, by omega⟩, rfl⟩, ?_⟩) |(refine And.intro (by simp only [lens_all, its_len]; first | done | omega) ?_) |(refine And.intro (Nat.le_refl _) ?_) | fail
  · rename_i hlt
    rw [badAt_step n last l k y hy, if_pos h] at hk2
    exact ⟨by show SV.int .i64 _ = SV.int .i64 _; rw [← hk2], trivial, trivial, trivial⟩
  · rename_i hlt
    have hy' : l[k]? = some y := hy
    rw [badAt_step n last l k y hy', if_neg (by rw [h]; simp)] at hk2
    refine ⟨k + 1, ⟨by omega, hk2⟩, (show l.length - (k + 1) < l.length - k by omega), ⟨rfl, rfl, rfl, rfl, trivial⟩, ⟨⟨rfl, rfl, trivial⟩, ⟨?_, trivial⟩, trivial⟩, rfl⟩
    show SV.int .i64 _ = SV.int .i64 _
    simp [lst, List.getD_eq_getElem?_getD, hy']
  · have : l.drop k = [] := List.drop_eq_nil_of_le (by omega)
    rw [this] at hk2
    exact ⟨by show SV.int .i64 _ = SV.int .i64 _; rw [← hk2]; rfl, trivial, trivial, trivial⟩
def ir_slices_ContainsFunc_api_Item_api_Item : IR :=
(.seq (.reg (⟨some 4, .mv (.c (.bool false)), none⟩ :: [])) (.seq (.reg (⟨some 5, .mv (.t 0), none⟩ ::⟨some 6, .mv (.t 1), none⟩ ::⟨some 7, .call (.c (.fn 98 [])) [(.t 5), (.t 6)], none⟩ ::⟨some 8, .bin .geq (.t 7) (.c (.int .i64 0)), none⟩ ::⟨some 4, .mv (.t 8), none⟩ :: [])) .ret))
theorem cd_slices_ContainsFunc_api_Item_api_Item : Code1 Tryz.prog 62 9 ir_slices_ContainsFunc_api_Item_api_Item [.t 4] := ⟨Tryz.call62, _, _, Tryz.func62, rfl, by kernel_rfl, by kernel_rfl, by kernel_rfl, by kernel_rfl⟩
theorem hs_Contains (n last : Int) (l : List (Int × Int)) (hl : l.length ≤ 1000000000) : HS Tryz.prog 62 [IL l, .fn 63 [.ptr 1 0 0 0, .ptr 0 0 0 0]] [.vars [.int .i64 n, IL l], .vars [.int .i64 last]] (.bool (!ups n last l)) [.dead, .dead] [] := by
  refine hs_of_cvc mixed cd_slices_ContainsFunc_api_Item_api_Item (by simp) ?_
  repeat' (conv => whnf); first |(refine Or.inr (Or.inr (Or.inr (Or.inl ⟨_, _, [], hs_Index n last l hl, by simp, ?_⟩)))) |((refine fun x hx => ?_); (obtain ⟨y, hy, rfl⟩ := its_get hx; clear hx)) | refine Br.tt ?_ | refine Br.ff ?_ |(refine Br.dec (fun h=>?_) (fun h=>?_)) <;> try (exfalso; omega) | refine Br.neg ?_ |(refine Br.mk (fun h=>?_) (fun h=>?_)) | refine And.intro rfl ?_ |(refine And.intro (by omega) ?_) |(refine ⟨_, Or.inl ⟨⟨by omega, by omega⟩, rfl⟩, ?_⟩) |(refine And.intro (by simp only [lens_all]; first | done | omega) ?_) |(refine And.intro (Nat.le_refl _) ?_) | fail
  exact ⟨by show SV.bool _ = SV.bool _; rw [← badAt_ups n l last 0], trivial, trivial, trivial⟩
def ir_spvec_Right : IR :=
(.seq (.reg (⟨some 1, .bx (.t 0), none⟩ ::⟨some 2, .mv (.c (.bool false)), none⟩ :: [])) (.seq (.seq (.reg (⟨some 4, .fa 0 (.t 1), none⟩ ::⟨some 5, .ld 1 false (.t 4), none⟩ ::⟨some 6, .call (.c (.fn 61 [])) [(.t 5), (.c (.int .i64 4096))], none⟩ ::⟨some 7, .un .not (.t 6), none⟩ :: [])) (.cond (.t 7) (.seq (.reg (⟨some 2, .mv (.c (.bool false)), none⟩ :: [])) .ret) .skip)) (.seq (.reg (⟨some 3, .al [.int .i64 0], none⟩ ::⟨none, .st 1 (.t 3) (.c (.int .i64 (-1))), none⟩ :: [])) (.seq (.reg (⟨some 8, .fa 1 (.t 1), none⟩ ::⟨some 9, .ld 1 false (.t 8), none⟩ ::⟨some 10, .fn 63 [(.t 3), (.t 1)], none⟩ ::⟨some 11, .call (.c (.fn 62 [])) [(.t 9), (.t 10)], none⟩ ::⟨some 12, .un .not (.t 11), none⟩ ::⟨some 2, .mv (.t 12), none⟩ :: [])) .ret))))
theorem cd_spvec_Right : Code1 Tryz.prog 30 13 ir_spvec_Right [.t 2] := ⟨Tryz.call30, _, _, Tryz.func30, rfl, by kernel_rfl, by kernel_rfl, by kernel_rfl, by kernel_rfl⟩
theorem fs_vRight (n : Int) (l : List (Int × Int)) (hl : l.length ≤ 1000000000) : FS Tryz.prog 30 [VC n l] (.bool (isV n l)) := by
  refine fs_of_cvc mixed cd_spvec_Right (by simp) ?_
  repeat' (conv => whnf); first |(refine Or.inl ⟨by rfl, _, fs_vwithin _ _, ?_⟩) |(refine Or.inr (Or.inr (Or.inr (Or.inl ⟨_, _, [], hs_Contains n (-1) l hl, by simp, ?_⟩)))) |((refine fun x hx => ?_); (obtain ⟨y, hy, rfl⟩ := its_get hx; clear hx)) | refine Br.tt ?_ | refine Br.ff ?_ |(refine Br.dec (fun h=>?_) (fun h=>?_)) <;> try (exfalso; omega) | refine Br.neg ?_ |(refine Br.mk (fun h=>?_) (fun h=>?_)) | refine And.intro rfl ?_ |(refine And.intro (by omega) ?_) |(refine ⟨_, Or.inl ⟨⟨by omega, by omega⟩, rfl⟩, ?_⟩) |(refine And.intro (by simp only [lens_all]; first | done | omega) ?_) |(refine And.intro (Nat.le_refl _) ?_) | fail
  all_goals (show SV.bool _ = SV.bool _; simp [isV, *])
def sn (n : Int) (l : List (Int × Int)) : Int := if isV n l = true then n else 0
def sl (n : Int) (l : List (Int × Int)) : List (Int × Int) := if isV n l = true then l else []
def ir_spvec_sure : IR :=
(.seq (.reg (⟨some 1, .bx (.t 0), none⟩ ::⟨some 2, .al [.int .i64 0, .nils], none⟩ :: [])) (.seq (.seq (.reg (⟨some 3, .ld 2 true (.t 1), none⟩ ::⟨some 4, .call (.c (.fn 30 [])) [(.t 3)], none⟩ :: [])) (.cond (.t 4) (.seq (.reg (⟨some 5, .ld 2 true (.t 1), none⟩ ::⟨none, .st 2 (.t 2) (.t 5), none⟩ :: [])) .ret) .skip)) (.seq (.reg (⟨some 6, .bld [.int .i64 0, .nils] [], none⟩ ::⟨none, .st 2 (.t 2) (.t 6), none⟩ :: [])) .ret)))
theorem cd_spvec_sure : Code1 Tryz.prog 67 7 ir_spvec_sure [.c 2 true 2] := ⟨Tryz.call67, _, _, Tryz.func67, rfl, by kernel_rfl, by kernel_rfl, by kernel_rfl, by kernel_rfl⟩
theorem fs_vsure (n : Int) (l : List (Int × Int)) (hl : l.length ≤ 1000000000) : FS Tryz.prog 67 [VC n l] (VC (sn n l) (sl n l)) := by
  refine fs_of_cvc mixed cd_spvec_sure (by simp) ?_
  obtain ⟨b, hb⟩ : ∃ b, isV n l = b := ⟨_, rfl⟩
  have c := fs_vRight n l hl
  rw [hb] at c
  unfold sn sl
  rw [hb]
  repeat' (conv => whnf); first |(refine Or.inl ⟨by rfl, _, c, ?_⟩) |((refine fun x hx => ?_); (obtain ⟨y, hy, rfl⟩ := its_get hx; clear hx)) | refine Br.tt ?_ | refine Br.ff ?_ |(refine Br.dec (fun h=>?_) (fun h=>?_)) <;> try (exfalso; omega) | refine Br.neg ?_ |(refine Br.mk (fun h=>?_) (fun h=>?_)) | refine And.intro rfl ?_ |(refine And.intro (by omega) ?_) |(refine ⟨_, Or.inl ⟨⟨by omega, by omega⟩, rfl⟩, ?_⟩) |(refine And.intro (by simp only [lens_all]; first | done | omega) ?_) |(refine And.intro (Nat.le_refl _) ?_) | fail
  · subst h; exact rfl
  · subst h; exact ⟨rfl, rfl, trivial⟩
def Up (l : List (Int × Int)) : Prop := l.Pairwise fun x y => x.1 < y.1
theorem ups_up (n : Int) : ∀ (l : List (Int × Int)) (k : Int), ups n k l = true → Up l ∧ ∀ x ∈ l, k < x.1 ∧ x.1 < n
  | [], k, _ => ⟨.nil, by simp⟩
  | x :: xs, k, h => by
    simp [ups] at h
    obtain ⟨h1, h2⟩ := ups_up n xs x.1 h.2
    refine ⟨List.pairwise_cons.2 ⟨fun y hy => (h2 y hy).1, h1⟩, fun y hy => ?_⟩
    rcases List.mem_cons.1 hy with rfl | hy
    · exact h.1
    · have := h2 y hy; omega
theorem sl_up (n : Int) (l : List (Int × Int)) : Up (sl n l) ∧ ∀ x ∈ sl n l, 0 ≤ x.1 ∧ x.1 < sn n l := by
  unfold sl sn
  split
  · rename_i h
    simp [isV] at h
    obtain ⟨h1, h2⟩ := ups_up n l (-1) h.2
    exact ⟨h1, fun x hx => by have := h2 x hx; omega⟩
  · exact ⟨.nil, by simp⟩
theorem sn_le (n : Int) (l : List (Int × Int)) : 0 ≤ sn n l ∧ sn n l ≤ 4096 := by
  unfold sn
  split
  · rename_i h; simp [isV] at h; omega
  · omega
end
section
open Go.RowKit
attribute [local irreducible] FS FO IT HS
def ir_cmp_isNaN_int : IR :=
(.seq (.reg (⟨some 2, .mv (.c (.bool false)), none⟩ :: [])) (.seq (.reg (⟨some 3, .mv (.t 0), none⟩ ::⟨some 4, .mv (.t 0), none⟩ ::⟨some 5, .bin .neq (.t 3) (.t 4), none⟩ ::⟨some 2, .mv (.t 5), none⟩ :: [])) .ret))
theorem cd_cmp_isNaN_int : Code1 Tryz.prog 105 6 ir_cmp_isNaN_int [.t 2] := ⟨Tryz.call105, _, _, Tryz.func105, rfl, by kernel_rfl, by kernel_rfl, by kernel_rfl, by kernel_rfl⟩
theorem fs_nan (n : Int) : FS Tryz.prog 105 [.int .i64 n] (.bool false) := by
  refine fs_of_cvc mixed cd_cmp_isNaN_int (by simp) ?_
  repeat' (conv => whnf); first |((refine fun x hx => ?_); (obtain ⟨y, hy, rfl⟩ := its_get hx; clear hx)) |(refine Br.beq (by rfl) ?_) |(refine Br.bne (by rfl) ?_) | refine Br.tt ?_ | refine Br.ff ?_ |(refine Br.dec (fun h=>?_) (fun h=>?_)) <;> try (exfalso; omega) | refine Br.neg ?_ |(refine Br.mk (fun h=>?_) (fun h=>?_)) | refine And.intro rfl ?_ |(refine And.intro (by omega) ?_) |(refine ⟨_, Or.inl ⟨⟨by omega, by omega⟩, rfl⟩, ?_⟩) |(refine And.intro (by simp only [lens_all, its_len]; first | done | omega) ?_) |(refine And.intro (Nat.le_refl _) ?_) | fail
  all_goals (show SV.bool _ = SV.bool _; simp)
def ir_cmp_Compare_int : IR :=
(.seq (.reg (⟨some 4, .mv (.c (.int .i64 0)), none⟩ :: [])) (.seq (.reg (⟨some 7, .mv (.t 0), none⟩ ::⟨some 8, .call (.c (.fn 105 [])) [(.t 7)], none⟩ ::⟨some 5, .mv (.t 8), none⟩ :: [])) (.seq (.reg (⟨some 9, .mv (.t 1), none⟩ ::⟨some 10, .call (.c (.fn 105 [])) [(.t 9)], none⟩ ::⟨some 6, .mv (.t 10), none⟩ :: [])) (.seq (.seq (.reg (⟨some 11, .mv (.t 5), none⟩ :: [])) (.cond (.t 11) (.seq (.seq (.reg (⟨some 12, .mv (.t 6), none⟩ :: [])) (.cond (.t 12) (.seq (.reg (⟨some 4, .mv (.c (.int .i64 0)), none⟩ :: [])) .ret) .skip)) (.seq (.reg (⟨some 4, .mv (.c (.int .i64 (-1))), none⟩ :: [])) .ret)) .skip)) (.seq (.seq (.reg (⟨some 13, .mv (.t 6), none⟩ :: [])) (.cond (.t 13) (.seq (.reg (⟨some 4, .mv (.c (.int .i64 1)), none⟩ :: [])) .ret) .skip)) (.seq (.seq (.reg (⟨some 14, .mv (.t 0), none⟩ ::⟨some 15, .mv (.t 1), none⟩ ::⟨some 16, .bin .lss (.t 14) (.t 15), none⟩ :: [])) (.cond (.t 16) (.seq (.reg (⟨some 4, .mv (.c (.int .i64 (-1))), none⟩ :: [])) .ret) .skip)) (.seq (.seq (.reg (⟨some 17, .mv (.t 0), none⟩ ::⟨some 18, .mv (.t 1), none⟩ ::⟨some 19, .bin .gtr (.t 17) (.t 18), none⟩ :: [])) (.cond (.t 19) (.seq (.reg (⟨some 4, .mv (.c (.int .i64 1)), none⟩ :: [])) .ret) .skip)) (.seq (.reg (⟨some 4, .mv (.c (.int .i64 0)), none⟩ :: [])) .ret))))))))
theorem cd_cmp_Compare_int : Code1 Tryz.prog 80 20 ir_cmp_Compare_int [.t 4] := ⟨Tryz.call80, _, _, Tryz.func80, rfl, by kernel_rfl, by kernel_rfl, by kernel_rfl, by kernel_rfl⟩
def cmpI (x y : Int) : Int := if x < y then -1 else if x > y then 1 else 0
theorem fs_cmp (x y : Int) : FS Tryz.prog 80 [.int .i64 x, .int .i64 y] (.int .i64 (cmpI x y)) := by
  refine fs_of_cvc mixed cd_cmp_Compare_int (by simp) ?_
  repeat' (conv => whnf); first |(refine Or.inl ⟨by rfl, _, fs_nan _, ?_⟩) |((refine fun x hx => ?_); (obtain ⟨y, hy, rfl⟩ := its_get hx; clear hx)) |(refine Br.beq (by rfl) ?_) |(refine Br.bne (by rfl) ?_) | refine Br.tt ?_ | refine Br.ff ?_ |(refine Br.dec (fun h=>?_) (fun h=>?_)) <;> try (exfalso; omega) | refine Br.neg ?_ |(refine Br.mk (fun h=>?_) (fun h=>?_)) | refine And.intro rfl ?_ |(refine And.intro (by omega) ?_) |(refine ⟨_, Or.inl ⟨⟨by omega, by omega⟩, rfl⟩, ?_⟩) |(refine And.intro (by simp only [lens_all, its_len]; first | done | omega) ?_) |(refine And.intro (Nat.le_refl _) ?_) | fail
  all_goals (show SV.int .i64 _ = SV.int .i64 _; congr 1; unfold cmpI; (repeat' split) <;> omega)
end
section
open Go.RowKit
attribute [local irreducible] FS FO IT HS
theorem sl_len (n : Int) (l : List (Int × Int)) : (sl n l).length ≤ l.length := by unfold sl; split <;> simp
end
section
open Go.RowKit
attribute [local irreducible] FS FO IT HS
def idxI (p : Int × Int → Bool) (l : List (Int × Int)) : Int := match l.findIdx? p with
  | some i => i
  | none => -1
theorem idxI_step {p : Int × Int → Bool} {l : List (Int × Int)} {k : Nat} {y : Int × Int} (h : ∀ (j : Nat) (x : Int × Int), j < k → l[j]? = some x → p x = false) (hy : l[k]? = some y) (hp : p y = true) : idxI p l = k := by
  have hlt := (List.getElem?_eq_some_iff.1 hy).1
  have : l.findIdx? p = some k := by
    rw [List.findIdx?_eq_some_iff_getElem]
    refine ⟨hlt, by rw [(List.getElem?_eq_some_iff.1 hy).2]; exact hp, fun j hj => ?_⟩
    have := h j _ hj (List.getElem?_eq_getElem (by omega))
    simp [this]
  rw [idxI, this]
theorem idxI_none {p : Int × Int → Bool} {l : List (Int × Int)} (h : ∀ (j : Nat) (x : Int × Int), l[j]? = some x → p x = false) : idxI p l = -1 := by
  have : l.findIdx? p = none := by
    rw [List.findIdx?_eq_none_iff]
    intro x hx
    obtain ⟨j, hj⟩ := List.mem_iff_getElem?.1 hx
    simp [h j x hj]
  rw [idxI, this]
theorem its_append (l m : List (Int × Int)) : its (l ++ m) = its l ++ its m := by simp [its]
theorem idx_cases (p : Int × Int → Bool) (l : List (Int × Int)) : (idxI p l = -1 ∧ ∀ x ∈ l, p x = false) ∨ ∃ i : Nat, idxI p l = i ∧ i < l.length ∧ (∀ x ∈ l.take i, p x = false) ∧ p (l.getD i (0, 0)) = true := by
  unfold idxI
  cases h : l.findIdx? p with
  | none =>
    left
    rw [List.findIdx?_eq_none_iff] at h
    exact ⟨rfl, h⟩
  | some i =>
    right
    rw [List.findIdx?_eq_some_iff_getElem] at h
    obtain ⟨h1, h2, h3⟩ := h
    refine ⟨i, rfl, h1, fun x hx => ?_, by simpa [h1] using h2⟩
    obtain ⟨j, hj, rfl⟩ := List.mem_iff_getElem.1 hx
    have hj' : j < i := by simp at hj; omega
    have := h3 j hj'
    simpa using this
def rest (p : Int × Int → Bool) (l : List (Int × Int)) : List (Int × Int) := l.filter fun x => !p x
end
section
open Go.RowKit
attribute [local irreducible] FS FO IT HS
theorem Ib.sl {n : Int} {l : List (Int × Int)} (h : Ib l) : Ib (sl n l) := by
  unfold Go.Proofs.YtchjhncoahdbnaaGreat.sl; split
  · exact h
  · intro x hx; simp at hx
end
section
open Go.RowKit
attribute [local irreducible] FS FO IT HS
structure Pr where
  x : Int
  y : Int
  ok : Bool
  is : Bool
end
section
open Go.RowKit
attribute [local irreducible] FS FO IT HS
end
section
open Go.RowKit
attribute [local irreducible] FS FO IT HS
def Pr.val (p : Pr) : Int := if p.ok = true then p.x else p.y
theorem I0 : I64 0 := by unfold I64; omega
def VE (r : Int × List (Int × Int) × Int) : SV := .tup [VC r.1 r.2.1, .int .i64 r.2.2]
theorem frz_its (l : List (Int × Int)) : List.take l.length (List.drop 0 (its l)) = its l := by
  rw [List.drop_zero, ← its_len, List.take_length]
end
section
open Go.RowKit
attribute [local irreducible] FS FO IT HS
def gt (l : List (Int × Int)) (at' : Int) : Option Int := (l.find? fun x => decide (x.1 = at')).map (·.2)
theorem gt_nil (k : Int) : gt [] k = none := rfl
theorem gt_cons (x : Int × Int) (l : List (Int × Int)) (k : Int) : gt (x :: l) k = if x.1 = k then some x.2 else gt l k := by
  unfold gt
  rw [List.find?_cons]
  by_cases h : x.1 = k <;> simp [h]
theorem Up.tail {x : Int × Int} {l : List (Int × Int)} (h : Up (x :: l)) : Up l := (List.pairwise_cons.1 h).2
theorem Up.head {x : Int × Int} {l : List (Int × Int)} (h : Up (x :: l)) : ∀ y ∈ l, x.1 < y.1 := (List.pairwise_cons.1 h).1
theorem gt_none {l : List (Int × Int)} {k : Int} (h : ∀ x ∈ l, x.1 ≠ k) : gt l k = none := by
  unfold gt
  rw [Option.map_eq_none_iff, List.find?_eq_none]
  intro x hx; simpa using h x hx
theorem gt_lt {l : List (Int × Int)} {k : Int} (h : ∀ x ∈ l, k < x.1) : gt l k = none := gt_none fun x hx => by have := h x hx; omega
theorem gt_some {l : List (Int × Int)} (hu : Up l) {x : Int × Int} (hx : x ∈ l) : gt l x.1 = some x.2 := by
  induction l with
  | nil => simp at hx
  | cons y l ih =>
    rw [gt_cons]
    rcases List.mem_cons.1 hx with rfl | hx
    · simp
    · have := hu.head x hx
      rw [if_neg (by omega)]; exact ih hu.tail hx
theorem gt_mem {l : List (Int × Int)} {k v : Int} (h : gt l k = some v) : (k, v) ∈ l := by
  unfold gt at h
  obtain ⟨x, hx, rfl⟩ := Option.map_eq_some_iff.1 h
  have h1 := List.find?_some hx
  simp at h1
  subst h1
  exact List.mem_of_find?_eq_some hx
theorem up_ext {l m : List (Int × Int)} (hl : Up l) (hm : Up m) (h : ∀ k, gt l k = gt m k) : l = m := by
  induction l generalizing m with
  | nil =>
    cases m with
    | nil => rfl
    | cons y m =>
      have := h y.1
      rw [gt_nil, gt_cons, if_pos rfl] at this
      cases this
  | cons x l ih =>
    cases m with
    | nil =>
      have := h x.1
      rw [gt_nil, gt_cons, if_pos rfl] at this
      cases this
    | cons y m =>
      have hxy : x.1 = y.1 := by
        rcases Int.lt_trichotomy x.1 y.1 with h' | h' | h'
        · have := h x.1
          rw [gt_cons, if_pos rfl, gt_cons, if_neg (by omega), gt_lt fun z hz => by have := hm.head z hz; omega] at this
          cases this
        · exact h'
        · have := h y.1
          rw [gt_cons, if_neg (by omega), gt_cons, if_pos rfl, gt_lt fun z hz => by have := hl.head z hz; omega] at this
          cases this
      have hv : x.2 = y.2 := by
        have := h x.1
        rw [gt_cons, if_pos rfl, gt_cons, if_pos hxy.symm] at this
        exact Option.some.inj this
      have ht : l = m := ih hl.tail hm.tail fun k => by
        have := h k
        rw [gt_cons, gt_cons, hxy] at this
        by_cases hk : y.1 = k
        · subst hk
          rw [gt_lt fun z hz => by have := hl.head z hz; omega, gt_lt fun z hz => by have := hm.head z hz; omega]
        · rwa [if_neg hk, if_neg hk] at this
      rw [ht, show x = y from Prod.ext hxy hv]
end
end Go.Proofs.YtchjhncoahdbnaaGreat
