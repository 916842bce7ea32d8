/- Dense vectors: with a value, without, at some places, and parts: what that comes to (plain laws). Dense vectors: Set, Drop, Only, Part, Of, Back. Dense vectors: of items, and back; parts. -/
import Derived.Test.YtchjhncoahdbnaaGreatD1
namespace Go.Proofs.YtchjhncoahdbnaaGreat
section
open Go.RowKit
attribute [local irreducible] FS FO IT HS
def dV (n : Int) (l : List (Int × Int)) : SV := DV n (toF n l) (toL n l)
theorem getD_set {v : List Int} {i j : Nat} {x : Int} (h : i < v.length) : (v.set i x).getD j 0 = if j = i then x else v.getD j 0 := by
  rw [List.getD_eq_getElem?_getD, List.getElem?_set]
  by_cases e : i = j
  · subst e; rw [if_pos rfl, if_pos rfl, if_pos h]; rfl
  · rw [if_neg e, if_neg (fun h => e h.symm), List.getD_eq_getElem?_getD]
end
section
open Go.RowKit
attribute [local irreducible] FS FO IT HS
theorem zs_one {l : List Int} {q i : Nat} (hq : q = i) (h : i < l.length) : (zs l)[q]? = some [.int .i64 (l.getD i 0)] := by
  subst hq
  simp [zs, h]
theorem zs_set (m : List Int) (i : Nat) (a : Int) : (zs m).set i [.int .i64 a] = zs (m.set i a) := by simp [zs, List.map_set]
theorem frz_zl {k : Nat} {m : List Int} (h : k = m.length) : List.take k (List.drop 0 (zs m)) = zs m := by
  rw [List.drop_zero, List.take_of_length_le (by rw [zs_len]; omega)]
end
section
open Go.RowKit
attribute [local irreducible] FS FO IT HS
/-! ### One value after the other -/
theorem vtk_more {l : List (Int × Int)} {k : Nat} {x : Int × Int} (h : l[k]? = some x) : l.take (k + 1) = l.take k ++ [x] := by
  rw [List.take_add_one, h]; rfl
def setsV (v : List Int) (l : List (Int × Int)) : List Int := l.foldl (fun v x => v.set x.1.toNat x.2) v
theorem setsV_len (l : List (Int × Int)) : ∀ v : List Int, (setsV v l).length = v.length := by
  induction l with
  | nil => intro v; rfl
  | cons x l ih => intro v; show (setsV (v.set x.1.toNat x.2) l).length = _; rw [ih, List.length_set]
theorem setsV_more {v : List Int} {l : List (Int × Int)} {k : Nat} {x : Int × Int} (h : l[k]? = some x) : setsV v (l.take (k + 1)) = (setsV v (l.take k)).set x.1.toNat x.2 := by
  unfold setsV
  rw [vtk_more h, List.foldl_append]; rfl
theorem setsV_get : ∀ (l : List (Int × Int)) (v : List Int) (i : Nat), Up l → (∀ x ∈ l, 0 ≤ x.1 ∧ x.1 < v.length) → i < v.length → (setsV v l).getD i 0 = (gt l (i : Int)).getD (v.getD i 0)
  | [], v, i, _, _, _ => rfl
  | x :: l, v, i, hu, hb, hi => by
    have hx := hb x (by simp)
    show (setsV (v.set x.1.toNat x.2) l).getD i 0 = _
    rw [setsV_get l _ i hu.tail (fun y hy => by rw [List.length_set]; exact hb y (by simp [hy])) (by rw [List.length_set]; exact hi), gt_cons, getD_set (by omega)]
    by_cases e : x.1 = (i : Int)
    · rw [if_pos e, if_pos (show i = x.1.toNat by omega)]
      have : gt l (i : Int) = none := gt_lt fun y hy => by have := hu.head y hy; omega
      rw [this]; rfl
    · rw [if_neg e, if_neg (show ¬ i = x.1.toNat by omega)]
theorem setsV_to {n : Int} {l : List (Int × Int)} (h : OkV n l) : setsV (List.replicate n.toNat 0) l = toL n l := by
  have hl : (setsV (List.replicate n.toNat 0) l).length = n.toNat := by rw [setsV_len, List.length_replicate]
  unfold toL
  refine tab_ext hl fun i hi => ?_
  have hg := setsV_get l (List.replicate n.toNat 0) i h.up (fun x hx => by have := h.lo x hx; rw [List.length_replicate]; omega) (by rw [List.length_replicate]; exact hi)
  rw [List.getD_eq_getElem?_getD, List.getElem?_eq_getElem (by omega)] at hg
  rw [List.getElem?_eq_getElem (by omega)]
  simp only [Option.getD_some] at hg
  rw [hg]
  simp [List.getD_eq_getElem?_getD, hi]
def ir_spvec_Places : IR :=
(.seq (.reg (⟨some 1, .bx (.t 0), none⟩ ::⟨some 2, .mv (.c (.nils)), none⟩ :: [])) (.seq (.reg (⟨some 3, .mv (.c (.nils)), none⟩ :: [])) (.seq (.seq (.reg (⟨some 6, .ld 2 true (.t 1), none⟩ ::⟨some 7, .call (.c (.fn 67 [])) [(.t 6)], none⟩ ::⟨some 8, .fd 1 1 false (.t 7), none⟩ ::⟨some 9, .ln (.t 8), none⟩ ::⟨some 10, .mv (.c (.int .i64 0)), none⟩ :: [])) (.block 0 (.loop (.seq (.reg (⟨some 11, .bin .lss (.t 10) (.t 9), none⟩ :: [])) (.seq (.cond (.t 11) .skip (.exit 0)) (.seq (.block 1 (.seq (.reg (⟨some 12, .ia 2 (.t 8) (.t 10), none⟩ ::⟨some 13, .ld 2 true (.t 12), none⟩ ::⟨some 5, .al [.int .i64 0, .int .i64 0], none⟩ ::⟨none, .st 2 (.t 5) (.t 13), none⟩ :: [])) (.reg (⟨some 14, .mv (.t 3), none⟩ ::⟨some 15, .fa 0 (.t 5), none⟩ ::⟨some 16, .ld 1 false (.t 15), none⟩ ::⟨some 17, .bsl 1 1 [.int .i64 0] [(0, (.t 16))], none⟩ ::⟨some 18, .ap 1 8 (.t 14) (.t 17), none⟩ ::⟨some 3, .mv (.t 18), none⟩ :: [])))) (.reg (⟨some 19, .bin .add (.t 10) (.c (.int .i64 1)), none⟩ ::⟨some 10, .mv (.t 19), none⟩ :: [])))))))) (.seq (.reg (⟨some 20, .mv (.t 3), none⟩ ::⟨some 2, .mv (.t 20), none⟩ :: [])) .ret))))
theorem cd_spvec_Places : Code1 Tryz.prog 33 21 ir_spvec_Places [.t 2] := ⟨Tryz.call33, _, _, Tryz.func33, rfl, by kernel_rfl, by kernel_rfl, by kernel_rfl, by kernel_rfl⟩
set_option maxHeartbeats 4000000 in
theorem fs_vPlaces (n : Int) (l : List (Int × Int)) (hl : l.length ≤ 400000000) : FS Tryz.prog 33 [VC n l] (Z (plsI (sl n l))) := by
  refine fs_of_cvc mixed cd_spvec_Places (by simp) ?_
  have c1 := fs_vsure n l (by omega)
  have s1 := sl_len n l
  generalize sn n l = N1 at *
  generalize sl n l = a at *
  have hal := its_len a
  repeat' (conv => whnf); first |(refine Or.inl ⟨by rfl, _, c1, ?_⟩) |(refine Br.beq (by rfl) ?_) |(refine Br.bne (by rfl) ?_) |(refine And.intro (Or.inl (Nat.zero_le _)) ?_) |(refine And.intro (show _ ≤ _ from Nat.le_of_ble_eq_true rfl) ?_) |((refine And.intro (by intro y hy; simp at hy; subst hy; rfl) ?_)) | refine Br.tt ?_ | refine Br.ff ?_ |(refine Br.dec (fun h=>?_) (fun h=>?_)) <;> try (exfalso; omega) | refine Br.neg ?_ |(refine Br.mk (fun h=>?_) (fun h=>?_)) | refine And.intro rfl ?_ |(refine And.intro (by omega) ?_) |(refine ⟨_, Or.inl ⟨⟨by omega, by omega⟩, rfl⟩, ?_⟩) |(refine And.intro (by simp only [lens_all, U_len, zs_len, its_len, mvI_len]; first | done | omega) ?_) |(refine And.intro (Nat.le_refl _) ?_) | fail
  refine ⟨Nat, fun j => j ≤ a.length, fun j => [(3, .osl 1 1 0 j), (8, IL a), (9, .int .i64 (a.length : Int)), (10, .int .i64 (j : Int))], fun j => [.vars [.int .i64 n, IL l], .arr 1 (zs (plsI (a.take j)))], fun _ => none, fun j => a.length - j,
    ⟨0, Nat.zero_le _, ⟨⟨Nat.le_refl _, rfl, rfl⟩, rfl, ?_, rfl, trivial⟩, ⟨⟨rfl, rfl, trivial⟩, rfl, trivial⟩, rfl⟩, fun j hj => ?_⟩
  · exact congrArg (SV.int .i64) (congrArg Int.ofNat hal)
  have hj : j ≤ a.length := hj
  by_cases hja : j < a.length
  · obtain ⟨x, hx⟩ : ∃ x, a.getD j (0, 0) = x := ⟨_, rfl⟩
    have hxj : a[j]? = some x := by rw [← hx]; simp [hja]
    have hzl : (zs (plsI (a.take j))).length = j := by simp [zs, plsI]; omega
    repeat' (conv => whnf); first |(refine its_go' (i := j) (by omega) hx ?_) |(refine Br.beq (by rfl) ?_) |(refine Br.bne (by rfl) ?_) |(refine And.intro (Or.inl (Nat.zero_le _)) ?_) |(refine And.intro (show _ ≤ _ from Nat.le_of_ble_eq_true rfl) ?_) |((refine And.intro (by intro y hy; simp at hy; subst hy; rfl) ?_)) | refine Br.tt ?_ | refine Br.ff ?_ |(refine Br.dec (fun h=>?_) (fun h=>?_)) <;> try (exfalso; omega) | refine Br.neg ?_ |(refine Br.mk (fun h=>?_) (fun h=>?_)) | refine And.intro rfl ?_ |(refine And.intro (by omega) ?_) |(refine ⟨_, Or.inl ⟨⟨by omega, by omega⟩, rfl⟩, ?_⟩) |(refine And.intro (by simp only [lens_all]; first | done | omega) ?_) |(refine And.intro (Nat.le_refl _) ?_) | fail
    refine ⟨j + 1, (show j + 1 ≤ a.length by omega), (show a.length - (j + 1) < a.length - j by omega), ⟨rfl, rfl, rfl, rfl, trivial⟩, ⟨⟨rfl, rfl, trivial⟩, ?_, ⟨(show 1 ≤ 2 by omega), rfl, rfl⟩⟩, rfl⟩
    refine congrArg (Blk.arr 1) ?_
    rw [vtk_more hxj]
    unfold zs plsI
    rw [List.map_append, List.map_append]; rfl
  · obtain rfl : j = a.length := by omega
    have hzl : (zs (plsI (a.take a.length))).length = a.length := by simp [zs, plsI]
    repeat' (conv => whnf); first |(refine Br.beq (by rfl) ?_) |(refine Br.bne (by rfl) ?_) |(refine And.intro (Or.inl (Nat.zero_le _)) ?_) |(refine And.intro (show _ ≤ _ from Nat.le_of_ble_eq_true rfl) ?_) |((refine And.intro (by intro y hy; simp at hy; subst hy; rfl) ?_)) | refine Br.tt ?_ | refine Br.ff ?_ |(refine Br.dec (fun h=>?_) (fun h=>?_)) <;> try (exfalso; omega) | refine Br.neg ?_ |(refine Br.mk (fun h=>?_) (fun h=>?_)) | refine And.intro rfl ?_ |(refine And.intro (by omega) ?_) |(refine ⟨_, Or.inl ⟨⟨by omega, by omega⟩, rfl⟩, ?_⟩) |(refine And.intro (by simp only [lens_all, U_len, zs_len, its_len, mvI_len]; first | done | omega) ?_) |(refine And.intro (Nat.le_refl _) ?_) | fail
    conv => whnf
    have e1 : List.take a.length (List.drop 0 (zs (plsI (a.take a.length)))) = zs (plsI a) := by
      rw [List.take_length, List.drop_zero, List.take_of_length_le (by simp [zs, plsI])]
    rw [e1]
end
end Go.Proofs.YtchjhncoahdbnaaGreat
