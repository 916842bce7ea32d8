/- Dense vectors: what the laws call; the first laws. The laws on dense vectors. Each item of a vector turned; a part of a vector. Vectors one behind the other, of one value, alike: the program's. What a dense vector has is what the sparse one has. -/
import Derived.Test.YtahpfomabgfmkaaD3
namespace Go.Proofs.Ytahpfomabgfmkaa
section
open Go.RowKit
attribute [local irreducible] FS FO IT HS

section
variable {n : Int} {l : List (Int × Int)} (h : OkV n l)
include h
theorem OkV.i64 : I64 n := by have := h.n0; have := h.n1; unfold I64; omega
theorem dl_f : (toF n l).length ≤ 1000000 := by have := (okD_to h).len; omega
theorem dl_v : (toL n l).length ≤ 1000000 := by have := (okD_to h).vl; have := h.n1; omega
theorem fv_Back : FS Try.prog 20 [dV n l] (VC n l) := by
  have := fs_dBack n (toF n l) (toL n l) h.i64 (okD_to h).wd (dl_f h) (dl_v h)
  rwa [(okD_to h).dS, bk_to h] at this
theorem fv_Part (p q : Int) (hp : I64 p) (hq : I64 q) : FS Try.prog 37 [dV n l, .int .i64 p, .int .i64 q] (dV (ptR n l p q).1 (ptR n l p q).2) := by
  have := fs_dPart n (toF n l) (toL n l) p q h.i64 hp hq (okD_to h).wd (dl_f h) (dl_v h)
  rwa [(okD_to h).dS, bk_to h] at this
theorem fv_Of : FS Try.prog 23 [VC n l] (dV n l) := by
  have := fs_dOf n l (by have := h.le; omega)
  rwa [h.sn, h.sl] at this
theorem fv_Same : FS Try.prog 40 [dV n l, dV n l] (.bool true) := by
  have := fs_dSame n (toF n l) (toL n l) n (toF n l) (toL n l) (by have := dl_f h; omega) (by have := dl_v h; omega)
  rwa [decide_eq_true rfl, decide_eq_true rfl, decide_eq_true rfl] at this
end
theorem I64c {n : Int} (h : (decide (-9223372036854775808 ≤ n) && decide (n ≤ 9223372036854775807)) = true) : I64 n := by
  rw [Bool.and_eq_true, decide_eq_true_eq, decide_eq_true_eq] at h; exact h
end
section
open Go.RowKit
attribute [local irreducible] FS FO IT HS
end
section
open Go.RowKit
attribute [local irreducible] FS FO IT HS

theorem its_loose1 (l : List (Int × Int)) : ∀ b ∈ [Blk.arr 2 (its l)], Blk.loose b := fun b hb => by
  simp at hb
  subst hb
  exact its_loose l
/-- The first k items turned. -/
def mapK (f : Int × Int → Int × Int) (a : List (Int × Int)) (k : Nat) : List (Int × Int) := (a.take k).map f ++ a.drop k
theorem mapK_zero (f : Int × Int → Int × Int) (a : List (Int × Int)) : mapK f a 0 = a := by simp [mapK]
theorem mapK_all (f : Int × Int → Int × Int) (a : List (Int × Int)) : mapK f a a.length = a.map f := by simp [mapK]
theorem mapK_len (f : Int × Int → Int × Int) (a : List (Int × Int)) (k : Nat) : (mapK f a k).length = a.length := by simp [mapK]; omega
theorem mapK_at {f : Int × Int → Int × Int} {a : List (Int × Int)} {k : Nat} {x : Int × Int} (h : a[k]? = some x) : (mapK f a k)[k]? = some x := by
  have hk := (List.getElem?_eq_some_iff.1 h).1
  unfold mapK
  rw [List.getElem?_append_right (by simp; omega), List.getElem?_drop, show k + (k - ((a.take k).map f).length) = k by simp; omega, h]
theorem mapK_set {f : Int × Int → Int × Int} {a : List (Int × Int)} {k : Nat} {x : Int × Int} (h : a[k]? = some x) : (mapK f a k).set k (f x) = mapK f a (k + 1) := by
  obtain ⟨hk, he⟩ := List.getElem?_eq_some_iff.1 h
  unfold mapK
  rw [List.set_append_right _ _ (by simp; omega), show k - ((a.take k).map f).length = 0 by simp; omega, List.drop_eq_getElem_cons hk, vtk_more h, List.map_append, List.append_assoc]
  rfl

def ir_spvec_each : IR :=
(.seq (.reg (⟨(some 2), .bx (.t 0), none⟩ ::⟨(some 4), .al [.int .i64 0, .nils], none⟩ :: [])) (.seq (.reg (⟨(some 8), .ld 2 true (.t 2), none⟩ ::⟨(some 9), .call (.c (.fn 89 [])) [(.t 8)], none⟩ ::⟨none, .st 2 (.t 2) (.t 9), none⟩ :: [])) (.seq (.draw (⟨(some 10), .fa 0 (.t 2), none⟩ ::⟨(some 11), .ld 1 false (.t 10), none⟩ ::⟨(some 12), .fa 1 (.t 2), none⟩ ::⟨(some 13), .ld 1 false (.t 12), none⟩ ::⟨(some 14), .call (.c (.fn 96 [])) [(.t 13)], none⟩ ::⟨(some 15), .bld [.int .i64 0, .nils] [(0, 1, (.t 11)), (1, 1, (.t 14))], none⟩ ::⟨(some 5), .al [.int .i64 0, .nils], none⟩ :: []) (⟨none, .st 2 (.t 5) (.t 15), none⟩ :: [])) (.seq (.seq (.reg (⟨(some 16), .fa 1 (.t 5), none⟩ ::⟨(some 17), .ld 1 false (.t 16), none⟩ ::⟨(some 18), .ln (.t 17), none⟩ ::⟨(some 19), .mv (.c (.int .i64 0)), none⟩ :: [])) (.block 0 (.loop (.seq (.reg (⟨(some 20), .bin .lss (.t 19) (.t 18), none⟩ :: [])) (.seq (.cond (.t 20) .skip (.exit 0)) (.seq (.block 1 (.seq (.reg (⟨(some 21), .mv (.t 19), none⟩ ::⟨(some 22), .ia 2 (.t 17) (.t 19), none⟩ ::⟨(some 23), .ld 2 true (.t 22), none⟩ ::⟨(some 7), .al [.int .i64 0, .int .i64 0], none⟩ ::⟨(some 6), .mv (.t 21), none⟩ ::⟨none, .st 2 (.t 7) (.t 23), none⟩ :: [])) (.draw (⟨(some 24), .fa 1 (.t 5), none⟩ ::⟨(some 25), .ld 1 false (.t 24), none⟩ ::⟨(some 26), .mv (.t 6), none⟩ ::⟨(some 27), .mv (.t 1), none⟩ ::⟨(some 28), .ld 2 true (.t 7), none⟩ ::⟨(some 29), .call (.t 27) [(.t 28)], none⟩ :: []) (⟨(some 30), .ia 2 (.t 25) (.t 26), none⟩ ::⟨none, .st 2 (.t 30) (.t 29), none⟩ :: [])))) (.reg (⟨(some 31), .bin .add (.t 19) (.c (.int .i64 1)), none⟩ ::⟨(some 19), .mv (.t 31), none⟩ :: [])))))))) (.seq (.reg (⟨(some 32), .ld 2 true (.t 5), none⟩ ::⟨none, .st 2 (.t 4) (.t 32), none⟩ :: [])) .ret)))))
theorem cd_spvec_each : Code1 Try.prog 91 33 ir_spvec_each [.c 2 true 4] := ⟨Try.call91, _, _, Try.func91, rfl, by kernel_rfl, by kernel_rfl, by kernel_rfl, by kernel_rfl⟩

set_option maxHeartbeats 4000000 in
theorem fo_each (n : Int) (l : List (Int × Int)) (hl : l.length ≤ 400000000) (g : FuncId) (caps : List SV) (f : Int × Int → Int × Int) (hpc : SV.pure.pureL caps = true) (hp : ∀ x ∈ sl n l, FS Try.prog g (.agg [.int .i64 x.1, .int .i64 x.2] :: caps) (.agg [.int .i64 (f x).1, .int .i64 (f x).2])) :
    FO Try.prog 91 [VC n l, .fn g caps] (.agg [.int .i64 (sn n l), .osl 0 2 0 (sl n l).length]) [.arr 2 (its ((sl n l).map f))] := by
  refine fo_of_cvc mixed cd_spvec_each (by simp) ?_
  have c1 := fs_vsure n l (by omega)
  have s1 := sl_len n l
  generalize sn n l = N at *
  generalize sl n l = a at *
  have hal := its_len a
  have c2 := fo_vClone a (by omega)
  repeat' (conv => whnf); first
    | ((refine Or.inl ⟨by rfl, _, c1, ?_⟩))
    | ((refine Or.inr (Or.inl ⟨by rfl, _, _, c2, ?_⟩)))
    | ((refine Br.beq (by rfl) ?_))
    | ((refine Br.bne (by rfl) ?_))
    | ((refine And.intro (Or.inl (Nat.zero_le _)) ?_))
    | ((refine And.intro (show _ ≤ _ from Nat.le_of_ble_eq_true rfl) ?_))
    | (refine Br.tt ?_)
    | (refine Br.ff ?_)
    | (refine Br.dec (fun h => ?_) (fun h => ?_)) <;> try (exfalso; omega)
    | (refine Br.neg ?_)
    | (refine Br.mk (fun h => ?_) (fun h => ?_))
    | (refine And.intro rfl ?_)
    | (refine And.intro (by omega) ?_)
    | (refine ⟨_, Or.inl ⟨⟨by omega, by omega⟩, rfl⟩, ?_⟩)
    | (refine And.intro (by simp only [lens_all, its_len]; first | done | omega) ?_)
    | (refine And.intro (Nat.le_refl _) ?_)
    | fail
  refine ⟨Nat, fun j => j ≤ a.length, fun j => [(1, .fn g caps), (4, .ptr 1 0 0 0), (5, .ptr 3 0 0 0), (17, .osl 2 2 0 a.length), (18, .int .i64 (a.length : Int)), (19, .int .i64 (j : Int))], fun j => [.vars [.int .i64 N, IL a], .vars [.int .i64 0, .nils], .arr 2 (its (mapK f a j)), .vars [.int .i64 N, .osl 2 2 0 a.length]], fun _ => none, fun j => a.length - j,
    ⟨0, Nat.zero_le _, ⟨rfl, rfl, rfl, rfl, rfl, rfl, trivial⟩, ⟨⟨rfl, rfl, trivial⟩, ⟨rfl, rfl, trivial⟩, ?_, ⟨rfl, rfl, trivial⟩, trivial⟩, rfl⟩, fun j hj => ?_⟩
  · exact congrArg (fun l => Blk.arr 2 (its l)) (mapK_zero f a).symm
  have hj : j ≤ a.length := hj
  have hml := mapK_len f a j
  have hil := its_len (mapK f a j)
  by_cases hja : j < a.length
  · obtain ⟨x, hx⟩ : ∃ x, a[j]? = some x := ⟨_, List.getElem?_eq_getElem hja⟩
    have c3 := hp x (List.mem_of_getElem? hx)
    have hq := its_one (q := 0 + (j : Int).toNat) (by rw [show 0 + (j : Int).toNat = j by omega]; exact mapK_at (f := f) hx)
    have hpu : SV.pure.pureL (.agg [.int .i64 x.1, .int .i64 x.2] :: caps) = true := by simp [SV.pure.pureL, SV.pure, hpc]
    have hbe : ∀ n, (SV.bnd.bndL n caps && true) = true := fun n => by rw [bnd_pure.bndL_pure n caps hpc]; rfl
    repeat' (conv => whnf); first
      | ((refine ⟨_, hq, ?_⟩))
      | ((refine Or.inl ⟨hpu, _, c3, ?_⟩))
      | ((refine Br.beq (by rfl) ?_))
      | ((refine Br.bne (by rfl) ?_))
      | ((refine And.intro (Or.inl (Nat.zero_le _)) ?_))
      | ((refine And.intro (show _ ≤ _ from Nat.le_of_ble_eq_true rfl) ?_))
      | (refine Br.tt ?_)
      | (refine Br.ff ?_)
      | (refine Br.dec (fun h => ?_) (fun h => ?_)) <;> try (exfalso; omega)
      | (refine Br.neg ?_)
      | (refine Br.mk (fun h => ?_) (fun h => ?_))
      | (refine And.intro rfl ?_)
      | (refine And.intro (by omega) ?_)
      | (refine ⟨_, Or.inl ⟨⟨by omega, by omega⟩, rfl⟩, ?_⟩)
      | (refine And.intro (by simp only [lens_all, its_len]; first | done | omega) ?_)
      | (refine And.intro (Nat.le_refl _) ?_)
      | fail
    refine ⟨j + 1, (show j + 1 ≤ a.length by omega), (show a.length - (j + 1) < a.length - j by omega), ⟨rfl, rfl, rfl, rfl, rfl, rfl, trivial⟩, ⟨⟨rfl, rfl, trivial⟩, ⟨rfl, rfl, trivial⟩, ?_, ⟨rfl, rfl, trivial⟩, ⟨Nat.le_refl _, hbe 4, rfl⟩⟩, rfl⟩
    show Blk.arr 2 ((its (mapK f a j)).set (0 + (j : Int).toNat) [.int .i64 (f x).1, .int .i64 (f x).2]) = _
    rw [show 0 + (j : Int).toNat = j by omega, its_set, show ((f x).1, (f x).2) = f x from rfl, mapK_set hx]
  · obtain rfl : j = a.length := by omega
    repeat' (conv => whnf); first
      | ((refine Br.beq (by rfl) ?_))
      | ((refine Br.bne (by rfl) ?_))
      | ((refine And.intro (Or.inl (Nat.zero_le _)) ?_))
      | ((refine And.intro (show _ ≤ _ from Nat.le_of_ble_eq_true rfl) ?_))
      | (refine Br.tt ?_)
      | (refine Br.ff ?_)
      | (refine Br.dec (fun h => ?_) (fun h => ?_)) <;> try (exfalso; omega)
      | (refine Br.neg ?_)
      | (refine Br.mk (fun h => ?_) (fun h => ?_))
      | (refine And.intro rfl ?_)
      | (refine And.intro (by omega) ?_)
      | (refine ⟨_, Or.inl ⟨⟨by omega, by omega⟩, rfl⟩, ?_⟩)
      | (refine And.intro (by simp only [lens_all, its_len]; first | done | omega) ?_)
      | (refine And.intro (Nat.le_refl _) ?_)
      | fail
    rw [mapK_all]
    exact Or.inr (Or.inr (FoS.one 2 (MatL.agg (.cons (.same _ rfl) (.cons (.osl 0 2 2 0 _ rfl) .nil))) rfl rfl))

def ir_spvec_Part_1 : IR :=
(.seq (.reg (⟨(some 2), .bx (.t 0), none⟩ ::⟨(some 3), .al [.int .i64 0, .int .i64 0], none⟩ :: [])) (.seq (.reg (⟨(some 4), .fa 0 (.t 2), none⟩ ::⟨(some 5), .ld 1 false (.t 4), none⟩ ::⟨(some 6), .ld 1 false (.t 1), none⟩ ::⟨(some 7), .bin .sub (.t 5) (.t 6), none⟩ ::⟨(some 8), .fa 1 (.t 2), none⟩ ::⟨(some 9), .ld 1 false (.t 8), none⟩ ::⟨(some 10), .bld [.int .i64 0, .int .i64 0] [(0, 1, (.t 7)), (1, 1, (.t 9))], none⟩ ::⟨none, .st 2 (.t 3) (.t 10), none⟩ :: [])) .ret))
theorem cd_spvec_Part_1 : Code1 Try.prog 92 11 ir_spvec_Part_1 [.c 2 true 3] := ⟨Try.call92, _, _, Try.func92, rfl, by kernel_rfl, by kernel_rfl, by kernel_rfl, by kernel_rfl⟩

theorem fs_part1 (a : Int) (x : Int × Int) (h1 : I64 x.1) (h : I64 (x.1 - a)) : FS Try.prog 92 [.agg [.int .i64 x.1, .int .i64 x.2], .box [.int .i64 a] 0] (.agg [.int .i64 (x.1 - a), .int .i64 x.2]) := by
  refine fs_of_cvc mixed cd_spvec_Part_1 (by simp) ?_
  obtain ⟨x, y⟩ := x
  unfold I64 at h1 h
  simp only at h1 h ⊢
  repeat' (conv => whnf); first
    | ((refine Br.beq (by rfl) ?_))
    | ((refine Br.bne (by rfl) ?_))
    | ((refine And.intro (Or.inl (Nat.zero_le _)) ?_))
    | ((refine And.intro (show _ ≤ _ from Nat.le_of_ble_eq_true rfl) ?_))
    | (refine Br.tt ?_)
    | (refine Br.ff ?_)
    | (refine Br.dec (fun h => ?_) (fun h => ?_)) <;> try (exfalso; omega)
    | (refine Br.neg ?_)
    | (refine Br.mk (fun h => ?_) (fun h => ?_))
    | (refine And.intro rfl ?_)
    | (refine And.intro (by omega) ?_)
    | (refine ⟨_, Or.inl ⟨⟨by omega, by omega⟩, rfl⟩, ?_⟩)
    | (refine And.intro (by simp only [lens_all, its_len]; first | done | omega) ?_)
    | (refine And.intro (Nat.le_refl _) ?_)
    | fail
  first | exact rfl | exact ⟨⟨rfl, rfl, trivial⟩, trivial⟩

theorem take_pos (b : Int) : ∀ l : List (Int × Int), Up l → l.take (posI l b) = l.filter fun x => decide (x.1 < b)
  | [], _ => rfl
  | x :: l, hu => by
    rw [posI_cons, List.filter_cons]
    have hh := hu.head
    by_cases h : b ≤ x.1
    · rw [if_pos h, if_neg (by simp; omega), List.filter_eq_nil_iff.2 fun y hy => by have := hh y hy; simp; omega]; rfl
    · rw [if_neg h, if_pos (decide_eq_true (by omega)), List.take_succ_cons, take_pos b l hu.tail]
theorem cut_pos {a b : Int} (hab : a ≤ b) : ∀ l : List (Int × Int), Up l → posI l a ≤ posI l b ∧ (l.drop (posI l a)).take (posI l b - posI l a) = l.filter fun x => decide (a ≤ x.1) && decide (x.1 < b)
  | [], _ => ⟨Nat.le_refl _, rfl⟩
  | x :: l, hu => by
    rw [posI_cons, posI_cons, List.filter_cons]
    have hh := hu.head
    by_cases hb : b ≤ x.1
    · rw [if_pos hb, if_pos (by omega), if_neg (by simp; omega), List.filter_eq_nil_iff.2 fun y hy => by have := hh y hy; simp; omega]
      exact ⟨Nat.le_refl _, rfl⟩
    · by_cases ha : a ≤ x.1
      · rw [if_neg hb, if_pos ha, if_pos (by simp; omega)]
        refine ⟨Nat.zero_le _, ?_⟩
        rw [List.drop_zero, Nat.sub_zero, List.take_succ_cons, take_pos b l hu.tail]
        refine congrArg (x :: ·) (List.filter_congr fun y hy => ?_)
        have := hh y hy
        rw [decide_eq_true (show a ≤ y.1 by omega), Bool.true_and]
      · obtain ⟨i1, i2⟩ := cut_pos hab l hu.tail
        rw [if_neg hb, if_neg ha, if_neg (by simp; omega), List.drop_succ_cons, Nat.add_sub_add_right]
        exact ⟨by omega, i2⟩

def ir_spvec_Part : IR :=
(.seq (.reg (⟨(some 3), .bx (.t 0), none⟩ ::⟨(some 4), .bx (.t 1), none⟩ ::⟨(some 6), .al [.int .i64 0, .nils], none⟩ :: [])) (.seq (.reg (⟨(some 13), .ld 2 true (.t 3), none⟩ ::⟨(some 14), .call (.c (.fn 89 [])) [(.t 13)], none⟩ ::⟨none, .st 2 (.t 3) (.t 14), none⟩ :: [])) (.seq (.drawL (⟨(some 15), .ld 1 false (.t 4), none⟩ ::⟨(some 16), .mm true [(.t 15), (.c (.int .i64 0))], none⟩ ::⟨(some 17), .mv (.t 2), none⟩ ::⟨(some 18), .fa 0 (.t 3), none⟩ ::⟨(some 19), .ld 1 false (.t 18), none⟩ ::⟨(some 20), .mm false [(.t 17), (.t 19)], none⟩ :: []) (⟨(some 17), .mv (.t 2), none⟩ ::⟨(some 18), .fa 0 (.t 3), none⟩ ::⟨(some 19), .ld 1 false (.t 18), none⟩ ::⟨(some 20), .mm false [(.t 17), (.t 19)], none⟩ :: []) (⟨none, .st 1 (.t 4) (.t 16), none⟩ :: []) (⟨(some 2), .mv (.t 20), none⟩ :: [])) (.seq (.seq (.reg (⟨(some 21), .mv (.t 2), none⟩ ::⟨(some 22), .ld 1 false (.t 4), none⟩ ::⟨(some 23), .bin .leq (.t 21) (.t 22), none⟩ :: [])) (.cond (.t 23) (.seq (.reg (⟨(some 24), .bld [.int .i64 0, .nils] [], none⟩ ::⟨none, .st 2 (.t 6) (.t 24), none⟩ :: [])) .ret) .skip)) (.seq (.reg (⟨(some 26), .ld 2 true (.t 3), none⟩ ::⟨(some 27), .ld 1 false (.t 4), none⟩ ::⟨(some 28), .call (.c (.fn 90 [])) [(.t 26), (.t 27)], none⟩ ::⟨(some 25), .mv (.t 28), none⟩ ::⟨(some 29), .ex 0 (.t 25), none⟩ ::⟨(some 30), .ex 1 (.t 25), none⟩ ::⟨(some 7), .mv (.t 29), none⟩ ::⟨(some 8), .mv (.t 30), none⟩ :: [])) (.seq (.reg (⟨(some 32), .ld 2 true (.t 3), none⟩ ::⟨(some 33), .mv (.t 2), none⟩ ::⟨(some 34), .call (.c (.fn 90 [])) [(.t 32), (.t 33)], none⟩ ::⟨(some 31), .mv (.t 34), none⟩ ::⟨(some 35), .ex 0 (.t 31), none⟩ ::⟨(some 36), .ex 1 (.t 31), none⟩ ::⟨(some 9), .mv (.t 35), none⟩ ::⟨(some 10), .mv (.t 36), none⟩ :: [])) (.seq (.draw (⟨(some 37), .fa 0 (.t 3), none⟩ ::⟨(some 38), .ld 1 false (.t 37), none⟩ ::⟨(some 39), .fa 1 (.t 3), none⟩ ::⟨(some 40), .ld 1 false (.t 39), none⟩ ::⟨(some 41), .mv (.t 7), none⟩ ::⟨(some 42), .mv (.t 9), none⟩ ::⟨(some 43), .sl 2 (.t 40) (some (.t 41)) (some (.t 42)) none, none⟩ ::⟨(some 44), .bld [.int .i64 0, .nils] [(0, 1, (.t 38)), (1, 1, (.t 43))], none⟩ ::⟨(some 11), .al [.int .i64 0, .nils], none⟩ :: []) (⟨none, .st 2 (.t 11) (.t 44), none⟩ :: [])) (.seq (.reg (⟨(some 45), .ld 2 true (.t 11), none⟩ ::⟨(some 46), .fn 92 [(.t 4)], none⟩ ::⟨(some 47), .call (.c (.fn 91 [])) [(.t 45), (.t 46)], none⟩ ::⟨(some 12), .al [.int .i64 0, .nils], none⟩ ::⟨none, .st 2 (.t 12) (.t 47), none⟩ :: [])) (.seq (.reg (⟨(some 48), .mv (.t 2), none⟩ ::⟨(some 49), .ld 1 false (.t 4), none⟩ ::⟨(some 50), .bin .sub (.t 48) (.t 49), none⟩ ::⟨(some 51), .fa 0 (.t 12), none⟩ ::⟨none, .st 1 (.t 51) (.t 50), none⟩ :: [])) (.seq (.reg (⟨(some 52), .ld 2 true (.t 12), none⟩ ::⟨none, .st 2 (.t 6) (.t 52), none⟩ :: [])) .ret))))))))))
theorem cd_spvec_Part : Code1 Try.prog 42 53 ir_spvec_Part [.c 2 true 6] := ⟨Try.call42, _, _, Try.func42, rfl, by kernel_rfl, by kernel_rfl, by kernel_rfl, by kernel_rfl⟩

set_option maxHeartbeats 4000000 in
theorem fs_vPart (n : Int) (l : List (Int × Int)) (p q : Int) (hl : l.length ≤ 400000000) (_hp : I64 p) (_hq : I64 q) : FS Try.prog 42 [VC n l, .int .i64 p, .int .i64 q] (VC (ptR (sn n l) (sl n l) p q).1 (ptR (sn n l) (sl n l) p q).2) := by
  refine fs_of_cvc mixed cd_spvec_Part (by simp) ?_
  have c1 := fs_vsure n l (by omega)
  have hok := okV n l
  have s1 := sl_len n l
  generalize sn n l = N at *
  generalize sl n l = A at *
  have hal := its_len A
  have hn0 := hok.n0
  have hn1 := hok.n1
  obtain ⟨t, ht⟩ : ∃ t, ptR N A p q = t := ⟨_, rfl⟩
  rw [ht]
  unfold ptR at ht
  by_cases h : min q N ≤ max p 0
  · rw [if_pos h] at ht
    subst ht
    repeat' (conv => whnf); first
      | ((refine Or.inl ⟨by rfl, _, c1, ?_⟩))
      | ((refine ex_but 1 ?_; refine And.intro ?_ ?_; focus ((repeat' (first | exact trivial | exact rfl | (refine And.intro ?_ ?_) | omega | ((conv => whnf); first | exact trivial | exact rfl | (refine And.intro ?_ ?_)))); done)))
      | ((exact rfl))
      | ((exact trivial))
      | ((refine And.intro ?_ ?_; focus ((repeat' (first | exact trivial | exact rfl | (refine And.intro ?_ ?_) | omega | ((conv => whnf); first | exact trivial | exact rfl | (refine And.intro ?_ ?_)))); done)))
      | ((refine Br.beq (by rfl) ?_))
      | ((refine Br.bne (by rfl) ?_))
      | ((refine And.intro (Or.inl (Nat.zero_le _)) ?_))
      | ((refine And.intro (show _ ≤ _ from Nat.le_of_ble_eq_true rfl) ?_))
      | (refine Br.tt ?_)
      | (refine Br.ff ?_)
      | (refine Br.dec (fun h => ?_) (fun h => ?_)) <;> try (exfalso; omega)
      | (refine Br.neg ?_)
      | (refine Br.mk (fun h => ?_) (fun h => ?_))
      | (refine And.intro rfl ?_)
      | (refine And.intro (by omega) ?_)
      | (refine ⟨_, Or.inl ⟨⟨by omega, by omega⟩, rfl⟩, ?_⟩)
      | (refine And.intro (by simp only [lens_all, its_len]; first | done | omega) ?_)
      | (refine And.intro (Nat.le_refl _) ?_)
      | fail
    all_goals first | exact rfl | exact trivial | exact ⟨rfl, trivial⟩
  · rw [if_neg h] at ht
    subst ht
    obtain ⟨i1, i2⟩ := cut_pos (a := max p 0) (b := min q N) (by omega) A hok.up
    have q1 := posI_le A (min q N)
    obtain ⟨cut, hcut⟩ : ∃ c, (A.filter fun x => decide (max p 0 ≤ x.1) && decide (x.1 < min q N)) = c := ⟨_, rfl⟩
    have hcm : ∀ x ∈ cut, x ∈ A ∧ max p 0 ≤ x.1 ∧ x.1 < min q N := fun x hx => by
      rw [← hcut, List.mem_filter, Bool.and_eq_true, decide_eq_true_eq, decide_eq_true_eq] at hx
      exact ⟨hx.1, hx.2.1, hx.2.2⟩
    have hoc : OkV N cut := ⟨hok.n0, hok.n1, by rw [← hcut]; exact hok.up.filter _, fun x hx => hok.lo x (hcm x hx).1⟩
    have hcl : cut.length ≤ A.length := by rw [← hcut]; exact List.length_filter_le _ _
    have c2 := fs_find N A (max p 0) (by omega) hok.up
    have c3 := fs_find N A (min q N) (by omega) hok.up
    have c4 := fo_each N cut (by omega) 92 [.box [.int .i64 (max p 0)] 0] (fun x => (x.1 - max p 0, x.2)) rfl fun x hx => by
      rw [hoc.sl] at hx
      have h1 := hok.lo x (hcm x hx).1
      have h2 := hcm x hx
      exact fs_part1 _ x (by unfold I64; omega) (by unfold I64; omega)
    rw [hoc.sn, hoc.sl] at c4
    have e : List.drop ((posI A (max p 0) : Nat) : Int).toNat (List.take ((posI A (min q N) : Nat) : Int).toNat (its A)) = its cut := by
      unfold its
      rw [Int.toNat_natCast, Int.toNat_natCast, List.drop_take, ← List.map_drop, ← List.map_take, i2, hcut]
    replace c4 : FO Try.prog 91 [.agg [.int .i64 N, .slc 2 (List.drop ((posI A (max p 0) : Nat) : Int).toNat (List.take ((posI A (min q N) : Nat) : Int).toNat (its A)))], .fn 92 [.box [.int .i64 (max p 0)] 0]] (.agg [.int .i64 N, .osl 0 2 0 cut.length]) [.arr 2 (its (cut.map fun x => (x.1 - max p 0, x.2)))] := by
      rw [e]; exact c4
    have e2 : ptI (max p 0) (min q N) A = cut.map fun x => (x.1 - max p 0, x.2) := by unfold ptI; rw [hcut]
    rw [e2]
    generalize posI A (max p 0) = i at *
    generalize posI A (min q N) = j at *
    repeat' (conv => whnf); first
      | ((refine Or.inl ⟨by rfl, _, c1, ?_⟩))
      | ((refine Or.inl ⟨by rfl, _, c2, ?_⟩))
      | ((refine Or.inl ⟨by rfl, _, c3, ?_⟩))
      | ((refine Or.inr (Or.inr (Or.inr (Or.inr (Or.inl ?_)))); (conv => whnf); refine ⟨_, _, c4, rfl, its_loose1 _, ?_⟩))
      | ((refine ex_but 1 ?_; refine And.intro ?_ ?_; focus ((repeat' (first | exact trivial | exact rfl | (refine And.intro ?_ ?_) | omega | ((conv => whnf); first | exact trivial | exact rfl | (refine And.intro ?_ ?_)))); done)))
      | ((exact rfl))
      | ((exact trivial))
      | ((refine And.intro ?_ ?_; focus ((repeat' (first | exact trivial | exact rfl | (refine And.intro ?_ ?_) | omega | ((conv => whnf); first | exact trivial | exact rfl | (refine And.intro ?_ ?_)))); done)))
      | ((refine Br.beq (by rfl) ?_))
      | ((refine Br.bne (by rfl) ?_))
      | ((refine And.intro (Or.inl (Nat.zero_le _)) ?_))
      | ((refine And.intro (show _ ≤ _ from Nat.le_of_ble_eq_true rfl) ?_))
      | (refine Br.tt ?_)
      | (refine Br.ff ?_)
      | (refine Br.dec (fun h => ?_) (fun h => ?_)) <;> try (exfalso; omega)
      | (refine Br.neg ?_)
      | (refine Br.mk (fun h => ?_) (fun h => ?_))
      | (refine And.intro rfl ?_)
      | (refine And.intro (by omega) ?_)
      | (refine ⟨_, Or.inl ⟨⟨by omega, by omega⟩, rfl⟩, ?_⟩)
      | (refine And.intro (by simp only [lens_all, its_len]; first | done | omega) ?_)
      | (refine And.intro (Nat.le_refl _) ?_)
      | fail
    conv => whnf
    rw [frz_len (by simp)]
    rfl
end
section
open Go.RowKit
attribute [local irreducible] FS FO IT HS

def ir_slices_Equal_api_Item_api_Item : IR :=
(.seq (.reg (⟨(some 4), .mv (.c (.bool false)), none⟩ :: [])) (.seq (.seq (.reg (⟨(some 6), .mv (.t 0), none⟩ ::⟨(some 7), .ln (.t 6), none⟩ ::⟨(some 8), .mv (.t 1), none⟩ ::⟨(some 9), .ln (.t 8), none⟩ ::⟨(some 10), .bin .neq (.t 7) (.t 9), none⟩ :: [])) (.cond (.t 10) (.seq (.reg (⟨(some 4), .mv (.c (.bool false)), none⟩ :: [])) .ret) .skip)) (.seq (.seq (.reg (⟨(some 11), .mv (.t 0), none⟩ ::⟨(some 12), .ln (.t 11), none⟩ ::⟨(some 13), .mv (.c (.int .i64 0)), none⟩ :: [])) (.block 0 (.loop (.seq (.reg (⟨(some 14), .bin .lss (.t 13) (.t 12), none⟩ :: [])) (.seq (.cond (.t 14) .skip (.exit 0)) (.seq (.block 1 (.seq (.reg (⟨(some 15), .mv (.t 13), none⟩ ::⟨(some 5), .mv (.t 15), none⟩ :: [])) (.seq (.draw (⟨(some 16), .mv (.t 0), none⟩ ::⟨(some 17), .mv (.t 5), none⟩ ::⟨(some 18), .ia 2 (.t 16) (.t 17), none⟩ ::⟨(some 19), .ld 2 true (.t 18), none⟩ ::⟨(some 20), .mv (.t 1), none⟩ ::⟨(some 21), .mv (.t 5), none⟩ ::⟨(some 22), .ia 2 (.t 20) (.t 21), none⟩ ::⟨(some 23), .ld 2 true (.t 22), none⟩ :: []) (⟨(some 24), .eqv true 39 (.t 19) (.t 23), none⟩ :: [])) (.cond (.t 24) (.seq (.reg (⟨(some 4), .mv (.c (.bool false)), none⟩ :: [])) .ret) .skip)))) (.reg (⟨(some 25), .bin .add (.t 13) (.c (.int .i64 1)), none⟩ ::⟨(some 13), .mv (.t 25), none⟩ :: [])))))))) (.seq (.reg (⟨(some 4), .mv (.c (.bool true)), none⟩ :: [])) .ret))))
theorem cd_slices_Equal_api_Item_api_Item : Code1 Try.prog 95 26 ir_slices_Equal_api_Item_api_Item [.t 4] := ⟨Try.call95, _, _, Try.func95, rfl, by kernel_rfl, by kernel_rfl, by kernel_rfl, by kernel_rfl⟩

theorem fs_EqualI (l m : List (Int × Int)) (_hl : l.length ≤ 1000000000) (hm : m.length ≤ 1000000000) : FS Try.prog 95 [IL l, IL m] (.bool (decide (l = m))) := by
  refine fs_of_cvc mixed cd_slices_Equal_api_Item_api_Item (by simp) ?_
  have h1 := its_len l
  have h2 := its_len m
  repeat' (conv => whnf); first
    | ((refine Br.beq (by rfl) ?_))
    | ((refine Br.bne (by rfl) ?_))
    | ((refine And.intro (Or.inl (Nat.zero_le _)) ?_))
    | ((refine And.intro (show _ ≤ _ from Nat.le_of_ble_eq_true rfl) ?_))
    | ((refine And.intro (by intro y hy; simp at hy; subst hy; rfl) ?_))
    | (refine Br.tt ?_)
    | (refine Br.ff ?_)
    | (refine Br.dec (fun h => ?_) (fun h => ?_)) <;> try (exfalso; omega)
    | (refine Br.neg ?_)
    | (refine Br.mk (fun h => ?_) (fun h => ?_))
    | (refine And.intro rfl ?_)
    | (refine And.intro (by omega) ?_)
    | (refine ⟨_, Or.inl ⟨⟨by omega, by omega⟩, rfl⟩, ?_⟩)
    | (refine And.intro (by simp only [lens_all, its_len, vecs_len, filL_len]; first | done | omega) ?_)
    | (refine And.intro (Nat.le_refl _) ?_)
    | fail
  · show SV.bool false = SV.bool _
    have : l ≠ m := fun e => by subst e; omega
    simp [this]
  · have hlm : l.length = m.length := by omega
    refine ⟨Nat, fun k => k ≤ l.length ∧ l.take k = m.take k, fun k => [(0, IL l), (1, IL m), (12, .int .i64 (l.length : Int)), (13, .int .i64 (k : Int))], fun k => [], fun _ => none, fun k => l.length - k, ⟨0, ⟨by omega, rfl⟩, ⟨rfl, rfl, ?_, rfl, trivial⟩, trivial, rfl⟩, fun k hk => ?_⟩
    · exact congrArg (SV.int .i64) (congrArg Int.ofNat h1)
    obtain ⟨hk1, hk2⟩ := hk
    repeat' (conv => whnf); first
      | ((refine its_go (i := k) (by omega) ?_))
      | ((refine ⟨_, eqi true _ _ _ _, ?_⟩))
      | ((refine Br.beq (by rfl) ?_))
      | ((refine Br.bne (by rfl) ?_))
      | ((refine And.intro (Or.inl (Nat.zero_le _)) ?_))
      | ((refine And.intro (show _ ≤ _ from Nat.le_of_ble_eq_true rfl) ?_))
      | ((refine And.intro (by intro y hy; simp at hy; subst hy; rfl) ?_))
      | (refine Br.tt ?_)
      | (refine Br.ff ?_)
      | (refine Br.dec (fun h => ?_) (fun h => ?_)) <;> try (exfalso; omega)
      | (refine Br.neg ?_)
      | (refine Br.mk (fun h => ?_) (fun h => ?_))
      | (refine And.intro rfl ?_)
      | (refine And.intro (by omega) ?_)
      | (refine ⟨_, Or.inl ⟨⟨by omega, by omega⟩, rfl⟩, ?_⟩)
      | (refine And.intro (by simp only [lens_all, its_len, vecs_len, filL_len]; first | done | omega) ?_)
      | (refine And.intro (Nat.le_refl _) ?_)
      | fail
    · show SV.bool false = SV.bool _
      have : l ≠ m := fun e => by subst e; exact h rfl
      simp [this]
    · have hkl : k < l.length := by omega
      have heq : l.getD k (0, 0) = m.getD k (0, 0) := Classical.not_not.1 h
      refine ⟨k + 1, ⟨by omega, ?_⟩, (show l.length - (k + 1) < l.length - k by omega), ⟨rfl, rfl, rfl, rfl, trivial⟩, trivial, rfl⟩
      rw [List.take_add_one, List.take_add_one, hk2, getD_some hkl, getD_some (l := m) (by omega), heq]
    · have hkl : k = l.length := by omega
      subst hkl
      rw [List.take_length, hlm, List.take_length] at hk2
      show SV.bool true = SV.bool _
      simp [hk2]

def ir_spvec_Same : IR :=
(.seq (.reg (⟨(some 2), .bx (.t 0), none⟩ ::⟨(some 3), .bx (.t 1), none⟩ ::⟨(some 4), .mv (.c (.bool false)), none⟩ :: [])) (.seq (.reg (⟨(some 5), .fa 0 (.t 2), none⟩ ::⟨(some 6), .ld 1 false (.t 5), none⟩ ::⟨(some 7), .fa 0 (.t 3), none⟩ ::⟨(some 8), .ld 1 false (.t 7), none⟩ ::⟨(some 9), .bin .eql (.t 6) (.t 8), none⟩ ::⟨(some 10), .mv (.t 9), none⟩ ::⟨(some 11), .fa 1 (.t 2), some (10, true)⟩ ::⟨(some 12), .ld 1 false (.t 11), some (10, true)⟩ ::⟨(some 13), .fa 1 (.t 3), some (10, true)⟩ ::⟨(some 14), .ld 1 false (.t 13), some (10, true)⟩ ::⟨(some 15), .call (.c (.fn 95 [])) [(.t 12), (.t 14)], some (10, true)⟩ ::⟨(some 16), .pick (.t 10) (.t 15) (.c (.bool false)), none⟩ ::⟨(some 4), .mv (.t 16), none⟩ :: [])) .ret))
theorem cd_spvec_Same : Code1 Try.prog 46 17 ir_spvec_Same [.t 4] := ⟨Try.call46, _, _, Try.func46, rfl, by kernel_rfl, by kernel_rfl, by kernel_rfl, by kernel_rfl⟩

theorem fs_vSame (n p : Int) (l m : List (Int × Int)) (hl : l.length ≤ 1000000000) (hm : m.length ≤ 1000000000) : FS Try.prog 46 [VC n l, VC p m] (.bool (decide (n = p) && decide (l = m))) := by
  refine fs_of_cvc mixed cd_spvec_Same (by simp) ?_
  repeat' (conv => whnf); first
    | ((refine Or.inl ⟨by rfl, _, fs_EqualI l m hl hm, ?_⟩))
    | ((refine Br.beq (by rfl) ?_))
    | ((refine Br.bne (by rfl) ?_))
    | ((refine And.intro (Or.inl (Nat.zero_le _)) ?_))
    | ((refine And.intro (show _ ≤ _ from Nat.le_of_ble_eq_true rfl) ?_))
    | ((refine And.intro (by intro y hy; simp at hy; subst hy; rfl) ?_))
    | (refine Br.tt ?_)
    | (refine Br.ff ?_)
    | (refine Br.dec (fun h => ?_) (fun h => ?_)) <;> try (exfalso; omega)
    | (refine Br.neg ?_)
    | (refine Br.mk (fun h => ?_) (fun h => ?_))
    | (refine And.intro rfl ?_)
    | (refine And.intro (by omega) ?_)
    | (refine ⟨_, Or.inl ⟨⟨by omega, by omega⟩, rfl⟩, ?_⟩)
    | (refine And.intro (by simp only [lens_all, its_len, vecs_len, filL_len]; first | done | omega) ?_)
    | (refine And.intro (Nat.le_refl _) ?_)
    | fail
  all_goals (show SV.bool _ = SV.bool _; simp [*])

/-- One value at each of the first k places. -/
def filL (k : Nat) (v : Int) : List (Int × Int) := (List.range k).map fun (i : Nat) => ((i : Int), v)
theorem filL_len (k : Nat) (v : Int) : (filL k v).length = k := by simp [filL]
theorem filL_succ (k : Nat) (v : Int) : filL (k + 1) v = filL k v ++ [((k : Int), v)] := by simp [filL, List.range_succ]

def ir_spvec_Fill : IR :=
(.seq (.reg (⟨(some 4), .al [.int .i64 0, .nils], none⟩ :: [])) (.seq (.seq (.reg (⟨(some 7), .mv (.t 0), none⟩ ::⟨(some 8), .call (.c (.fn 94 [])) [(.t 7), (.c (.int .i64 4096))], none⟩ ::⟨(some 9), .un .not (.t 8), none⟩ :: [])) (.cond (.t 9) (.seq (.reg (⟨(some 10), .bld [.int .i64 0, .nils] [], none⟩ ::⟨none, .st 2 (.t 4) (.t 10), none⟩ :: [])) .ret) .skip)) (.seq (.reg (⟨(some 11), .mv (.t 0), none⟩ ::⟨(some 12), .bld [.int .i64 0, .nils] [(0, 1, (.t 11))], none⟩ ::⟨(some 5), .al [.int .i64 0, .nils], none⟩ ::⟨none, .st 2 (.t 5) (.t 12), none⟩ :: [])) (.seq (.seq (.reg (⟨(some 13), .mv (.t 0), none⟩ ::⟨(some 14), .mv (.c (.int .i64 0)), none⟩ :: [])) (.block 0 (.loop (.seq (.reg (⟨(some 15), .bin .lss (.t 14) (.t 13), none⟩ :: [])) (.seq (.cond (.t 15) .skip (.exit 0)) (.seq (.block 1 (.seq (.reg (⟨(some 16), .mv (.t 14), none⟩ ::⟨(some 6), .mv (.t 16), none⟩ :: [])) (.reg (⟨(some 17), .fa 1 (.t 5), none⟩ ::⟨(some 18), .ld 1 false (.t 17), none⟩ ::⟨(some 19), .mv (.t 6), none⟩ ::⟨(some 20), .mv (.t 1), none⟩ ::⟨(some 21), .bld [.int .i64 0, .int .i64 0] [(0, 1, (.t 19)), (1, 1, (.t 20))], none⟩ ::⟨(some 22), .bsl 1 2 [.int .i64 0, .int .i64 0] [(0, (.t 21))], none⟩ ::⟨(some 23), .ap 2 16 (.t 18) (.t 22), none⟩ ::⟨(some 24), .fa 1 (.t 5), none⟩ ::⟨none, .st 1 (.t 24) (.t 23), none⟩ :: [])))) (.reg (⟨(some 25), .bin .add (.t 14) (.c (.int .i64 1)), none⟩ ::⟨(some 14), .mv (.t 25), none⟩ :: [])))))))) (.seq (.reg (⟨(some 26), .ld 2 true (.t 5), none⟩ ::⟨none, .st 2 (.t 4) (.t 26), none⟩ :: [])) .ret)))))
theorem cd_spvec_Fill : Code1 Try.prog 45 27 ir_spvec_Fill [.c 2 true 4] := ⟨Try.call45, _, _, Try.func45, rfl, by kernel_rfl, by kernel_rfl, by kernel_rfl, by kernel_rfl⟩

theorem fs_Fill (n v : Int) : FS Try.prog 45 [.int .i64 n, .int .i64 v] (if 0 ≤ n ∧ n ≤ 4096 then VC n (filL n.toNat v) else VC 0 []) := by
  refine fs_of_cvc mixed cd_spvec_Fill (by simp) ?_
  have c1 := fs_vwithin n 4096
  by_cases h : 0 ≤ n ∧ n ≤ 4096
  · rw [if_pos h]
    rw [decide_eq_true h.1, decide_eq_true h.2] at c1
    repeat' (conv => whnf); first
      | ((refine Or.inl ⟨by rfl, _, c1, ?_⟩))
      | ((refine Br.beq (by rfl) ?_))
      | ((refine Br.bne (by rfl) ?_))
      | ((refine And.intro (Or.inl (Nat.zero_le _)) ?_))
      | ((refine And.intro (show _ ≤ _ from Nat.le_of_ble_eq_true rfl) ?_))
      | ((refine And.intro (by intro y hy; simp at hy; subst hy; rfl) ?_))
      | (refine Br.tt ?_)
      | (refine Br.ff ?_)
      | (refine Br.dec (fun h => ?_) (fun h => ?_)) <;> try (exfalso; omega)
      | (refine Br.neg ?_)
      | (refine Br.mk (fun h => ?_) (fun h => ?_))
      | (refine And.intro rfl ?_)
      | (refine And.intro (by omega) ?_)
      | (refine ⟨_, Or.inl ⟨⟨by omega, by omega⟩, rfl⟩, ?_⟩)
      | (refine And.intro (by simp only [lens_all, its_len, vecs_len, filL_len]; first | done | omega) ?_)
      | (refine And.intro (Nat.le_refl _) ?_)
      | fail
    refine ⟨Nat, fun k => (k : Int) ≤ n, fun k => [(1, .int .i64 v), (4, .ptr 0 0 0 0), (5, .ptr 1 0 0 0), (13, .int .i64 n), (14, .int .i64 (k : Int))], fun k => [.vars [.int .i64 0, .nils], .vars [.int .i64 n, .osl 2 2 0 k], .arr 2 (its (filL k v))], fun _ => none, fun k => n.toNat - k,
      ⟨0, h.1, ⟨rfl, rfl, rfl, rfl, rfl, trivial⟩, ⟨⟨rfl, rfl, trivial⟩, ⟨rfl, ⟨Nat.le_refl _, rfl, rfl⟩, trivial⟩, rfl, trivial⟩, rfl⟩, fun k hk => ?_⟩
    have hk : (k : Int) ≤ n := hk
    have hfl := filL_len k v
    have hil := its_len (filL k v)
    repeat' (conv => whnf); first
      | ((refine Br.beq (by rfl) ?_))
      | ((refine Br.bne (by rfl) ?_))
      | ((refine And.intro (Or.inl (Nat.zero_le _)) ?_))
      | ((refine And.intro (show _ ≤ _ from Nat.le_of_ble_eq_true rfl) ?_))
      | ((refine And.intro (by intro y hy; simp at hy; subst hy; rfl) ?_))
      | (refine Br.tt ?_)
      | (refine Br.ff ?_)
      | (refine Br.dec (fun h => ?_) (fun h => ?_)) <;> try (exfalso; omega)
      | (refine Br.neg ?_)
      | (refine Br.mk (fun h => ?_) (fun h => ?_))
      | (refine And.intro rfl ?_)
      | (refine And.intro (by omega) ?_)
      | (refine ⟨_, Or.inl ⟨⟨by omega, by omega⟩, rfl⟩, ?_⟩)
      | (refine And.intro (by simp only [lens_all]; first | done | omega) ?_)
      | (refine And.intro (Nat.le_refl _) ?_)
      | fail
    · have hk2 : (k : Int) < n := h
      refine ⟨k + 1, (show ((k + 1 : Nat) : Int) ≤ n by omega), (show n.toNat - (k + 1) < n.toNat - k by omega), ⟨rfl, rfl, rfl, rfl, rfl, trivial⟩, ⟨⟨rfl, rfl, trivial⟩, ⟨rfl, rfl, trivial⟩, ?_, trivial⟩, rfl⟩
      rw [filL_succ, its_append]; rfl
    · obtain rfl : n.toNat = k := by omega
      conv => whnf
      rw [frz_len hfl.symm]
      rfl
  · rw [if_neg h]
    have c1' : (decide (0 ≤ n) && decide (n ≤ 4096)) = false := by
      rw [Bool.eq_false_iff, Ne, Bool.and_eq_true, decide_eq_true_eq, decide_eq_true_eq]; omega
    rw [c1'] at c1
    repeat' (conv => whnf); first
      | ((refine Or.inl ⟨by rfl, _, c1, ?_⟩))
      | ((refine Br.beq (by rfl) ?_))
      | ((refine Br.bne (by rfl) ?_))
      | ((refine And.intro (Or.inl (Nat.zero_le _)) ?_))
      | ((refine And.intro (show _ ≤ _ from Nat.le_of_ble_eq_true rfl) ?_))
      | ((refine And.intro (by intro y hy; simp at hy; subst hy; rfl) ?_))
      | (refine Br.tt ?_)
      | (refine Br.ff ?_)
      | (refine Br.dec (fun h => ?_) (fun h => ?_)) <;> try (exfalso; omega)
      | (refine Br.neg ?_)
      | (refine Br.mk (fun h => ?_) (fun h => ?_))
      | (refine And.intro rfl ?_)
      | (refine And.intro (by omega) ?_)
      | (refine ⟨_, Or.inl ⟨⟨by omega, by omega⟩, rfl⟩, ?_⟩)
      | (refine And.intro (by simp only [lens_all, its_len, vecs_len, filL_len]; first | done | omega) ?_)
      | (refine And.intro (Nat.le_refl _) ?_)
      | fail
    all_goals first | exact rfl | exact trivial | exact ⟨rfl, trivial⟩

def ir_spvec_Glue_1 : IR :=
(.seq (.reg (⟨(some 2), .bx (.t 0), none⟩ ::⟨(some 3), .al [.int .i64 0, .int .i64 0], none⟩ :: [])) (.seq (.reg (⟨(some 4), .ld 1 false (.t 1), none⟩ ::⟨(some 5), .fa 0 (.t 2), none⟩ ::⟨(some 6), .ld 1 false (.t 5), none⟩ ::⟨(some 7), .bin .add (.t 4) (.t 6), none⟩ ::⟨(some 8), .fa 1 (.t 2), none⟩ ::⟨(some 9), .ld 1 false (.t 8), none⟩ ::⟨(some 10), .bld [.int .i64 0, .int .i64 0] [(0, 1, (.t 7)), (1, 1, (.t 9))], none⟩ ::⟨none, .st 2 (.t 3) (.t 10), none⟩ :: [])) .ret))
theorem cd_spvec_Glue_1 : Code1 Try.prog 93 11 ir_spvec_Glue_1 [.c 2 true 3] := ⟨Try.call93, _, _, Try.func93, rfl, by kernel_rfl, by kernel_rfl, by kernel_rfl, by kernel_rfl⟩

theorem fs_glue1 (s : Int) (x : Int × Int) (h : I64 (s + x.1)) : FS Try.prog 93 [.agg [.int .i64 x.1, .int .i64 x.2], .box [.int .i64 s] 0] (.agg [.int .i64 (s + x.1), .int .i64 x.2]) := by
  refine fs_of_cvc mixed cd_spvec_Glue_1 (by simp) ?_
  obtain ⟨x, y⟩ := x
  unfold I64 at h
  simp only at h ⊢
  repeat' (conv => whnf); first
    | ((refine Br.beq (by rfl) ?_))
    | ((refine Br.bne (by rfl) ?_))
    | ((refine And.intro (Or.inl (Nat.zero_le _)) ?_))
    | ((refine And.intro (show _ ≤ _ from Nat.le_of_ble_eq_true rfl) ?_))
    | ((refine And.intro (by intro y hy; simp at hy; subst hy; rfl) ?_))
    | (refine Br.tt ?_)
    | (refine Br.ff ?_)
    | (refine Br.dec (fun h => ?_) (fun h => ?_)) <;> try (exfalso; omega)
    | (refine Br.neg ?_)
    | (refine Br.mk (fun h => ?_) (fun h => ?_))
    | (refine And.intro rfl ?_)
    | (refine And.intro (by omega) ?_)
    | (refine ⟨_, Or.inl ⟨⟨by omega, by omega⟩, rfl⟩, ?_⟩)
    | (refine And.intro (by simp only [lens_all, its_len, vecs_len, filL_len]; first | done | omega) ?_)
    | (refine And.intro (Nat.le_refl _) ?_)
    | fail
  first | exact rfl | exact ⟨⟨rfl, rfl, trivial⟩, trivial⟩
end
section
open Go.RowKit
attribute [local irreducible] FS FO IT HS
end
end Go.Proofs.Ytahpfomabgfmkaa
