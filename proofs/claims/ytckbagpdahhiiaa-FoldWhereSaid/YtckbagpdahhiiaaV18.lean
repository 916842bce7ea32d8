/- Vectors one behind the other: the document's function; what such come to. What is assigned at unlike places is selected there. -/
import Derived.Test.YtckbagpdahhiiaaV17
namespace Go.Proofs.Ytckbagpdahhiiaa
section
open Go.RowKit
attribute [local irreducible] FS FO IT HS

abbrev Vc := Int × List (Int × Int)
def vecs (l : List Vc) : List (List SV) := l.map fun v => [.int .i64 v.1, IL v.2]
def VL (l : List Vc) : SV := .slc 2 (vecs l)
theorem vecs_len (l : List Vc) : (vecs l).length = l.length := by simp [vecs]
theorem vecs_go {l : List Vc} {v : Vc} {q i : Nat} {K : List SV → Prop} (hq : q = i) (hx : l.getD i (0, []) = v) (h : K [.int .i64 v.1, IL v.2]) : ∀ y, (vecs l)[q]? = some y → K y := fun y hy => by
  subst hq
  have : ∃ u, l[q]? = some u ∧ y = [.int .i64 u.1, IL u.2] := by
    simp only [vecs, List.getElem?_map, Option.map_eq_some_iff] at hy
    obtain ⟨u, h1, h2⟩ := hy
    exact ⟨u, h1, h2.symm⟩
  obtain ⟨u, hu, rfl⟩ := this
  have : u = v := by rw [← hx]; simp [hu]
  rw [this]; exact h

/-- Items moved by so many places. -/
def mvI (b : Int) (l : List (Int × Int)) : List (Int × Int) := l.map fun x => (b + x.1, x.2)
theorem mvI_len (b : Int) (l : List (Int × Int)) : (mvI b l).length = l.length := by simp [mvI]
def glS (s : Vc) (v : Vc) : Vc := (s.1 + sn v.1 v.2, s.2 ++ mvI s.1 (sl v.1 v.2))
def glK (vs : List Vc) (k : Nat) : Vc := (vs.take k).foldl glS (0, [])
def glR (vs : List Vc) : Int × List (Int × Int) × Int := if (glK vs vs.length).1 ≤ 4096 then ((glK vs vs.length).1, (glK vs vs.length).2, 0) else (0, [], 5)
theorem glK_more {vs : List Vc} {k : Nat} (h : k < vs.length) : glK vs (k + 1) = glS (glK vs k) (vs.getD k (0, [])) := by
  unfold glK
  rw [List.take_add_one, List.getElem?_eq_getElem h, List.foldl_append, List.getD_eq_getElem?_getD, List.getElem?_eq_getElem h]
  rfl
theorem glK_mono (vs : List Vc) : ∀ k j, (glK vs k).1 ≤ (glK vs (k + j)).1
  | k, 0 => Int.le_refl _
  | k, j + 1 => by
    have h1 := glK_mono vs k j
    rcases Nat.lt_or_ge (k + j) vs.length with h | h
    · rw [show k + (j + 1) = (k + j) + 1 by omega, glK_more h]
      have := (sn_le (vs.getD (k + j) (0, [])).1 (vs.getD (k + j) (0, [])).2).1
      show _ ≤ (glK vs (k + j)).1 + _
      omega
    · have : glK vs (k + (j + 1)) = glK vs (k + j) := by
        unfold glK
        rw [List.take_of_length_le h, List.take_of_length_le (by omega)]
      rw [this]; exact h1
theorem up_append {l m : List (Int × Int)} (hl : Up l) (hm : Up m) (h : ∀ x ∈ l, ∀ y ∈ m, x.1 < y.1) : Up (l ++ m) := List.pairwise_append.2 ⟨hl, hm, h⟩
theorem up_mvI {b : Int} {l : List (Int × Int)} (h : Up l) : Up (mvI b l) := by
  refine List.pairwise_map.2 (h.imp fun {x y} h => ?_)
  show b + x.1 < b + y.1
  omega
theorem okV_glS {s v : Vc} (h : OkV s.1 s.2) (hle : s.1 + sn v.1 v.2 ≤ 4096) : OkV (glS s v).1 (glS s v).2 := by
  have hv := okV v.1 v.2
  refine ⟨by show 0 ≤ s.1 + sn v.1 v.2; have := h.n0; have := hv.n0; omega, hle, up_append h.up (up_mvI hv.up) fun x hx y hy => ?_, fun x hx => ?_⟩
  · obtain ⟨z, hz, rfl⟩ := List.mem_map.1 hy
    have h1 := h.lo x hx
    have h2 := hv.lo z hz
    show x.1 < s.1 + z.1
    omega
  · show 0 ≤ x.1 ∧ x.1 < s.1 + sn v.1 v.2
    rcases List.mem_append.1 hx with hx | hx
    · have h1 := h.lo x hx
      have := hv.n0
      omega
    · obtain ⟨z, hz, rfl⟩ := List.mem_map.1 hx
      have h2 := hv.lo z hz
      have := h.n0
      show 0 ≤ s.1 + z.1 ∧ s.1 + z.1 < s.1 + sn v.1 v.2
      omega
theorem okV_glK (vs : List Vc) : ∀ k, (glK vs k).1 ≤ 4096 → OkV (glK vs k).1 (glK vs k).2
  | 0, _ => ⟨Int.le_refl _, by show (0 : Int) ≤ 4096; omega, .nil, by intro x hx; cases hx⟩
  | k + 1, h => by
    rcases Nat.lt_or_ge k vs.length with hk | hk
    · have h0 := glK_mono vs k 1
      have ih := okV_glK vs k (by omega)
      rw [glK_more hk] at h ⊢
      exact okV_glS ih h
    · have : glK vs (k + 1) = glK vs k := by
        unfold glK
        rw [List.take_of_length_le hk, List.take_of_length_le (by omega)]
      rw [this] at h ⊢
      exact okV_glK vs k h

def ir_fretworkref09_Glue : IR :=
(.seq (.reg (⟨(some 2), .al [.int .i64 0, .nils], none⟩ ::⟨(some 3), .mv (.c (.int .i64 0)), none⟩ :: [])) (.seq (.reg (⟨(some 4), .al [.int .i64 0, .nils], none⟩ :: [])) (.seq (.seq (.reg (⟨(some 5), .mv (.c (.int .i64 0)), none⟩ :: [])) (.block 0 (.loop (.seq (.seq (.reg (⟨(some 8), .mv (.t 5), none⟩ ::⟨(some 9), .mv (.t 0), none⟩ ::⟨(some 10), .ln (.t 9), none⟩ ::⟨(some 11), .bin .lss (.t 8) (.t 10), none⟩ :: [])) (.cond (.t 11) .skip (.exit 0))) (.seq (.block 1 (.seq (.reg (⟨(some 14), .mv (.t 0), none⟩ ::⟨(some 15), .mv (.t 5), none⟩ ::⟨(some 16), .ia 2 (.t 14) (.t 15), none⟩ ::⟨(some 17), .ld 2 true (.t 16), none⟩ ::⟨(some 18), .call (.c (.fn 62 [])) [(.t 17)], none⟩ ::⟨(some 6), .al [.int .i64 0, .nils], none⟩ ::⟨none, .st 2 (.t 6) (.t 18), none⟩ :: [])) (.seq (.seq (.reg (⟨(some 7), .mv (.c (.int .i64 0)), none⟩ :: [])) (.block 2 (.loop (.seq (.seq (.reg (⟨(some 19), .mv (.t 7), none⟩ ::⟨(some 20), .fa 1 (.t 6), none⟩ ::⟨(some 21), .ld 1 false (.t 20), none⟩ ::⟨(some 22), .ln (.t 21), none⟩ ::⟨(some 23), .bin .lss (.t 19) (.t 22), none⟩ :: [])) (.cond (.t 23) .skip (.exit 2))) (.seq (.block 3 (.draw (⟨(some 26), .fa 1 (.t 4), none⟩ ::⟨(some 27), .ld 1 false (.t 26), none⟩ ::⟨(some 28), .fa 0 (.t 4), none⟩ ::⟨(some 29), .ld 1 false (.t 28), none⟩ ::⟨(some 30), .fa 1 (.t 6), none⟩ ::⟨(some 31), .ld 1 false (.t 30), none⟩ ::⟨(some 32), .mv (.t 7), none⟩ ::⟨(some 33), .ia 2 (.t 31) (.t 32), none⟩ ::⟨(some 34), .fa 0 (.t 33), none⟩ ::⟨(some 35), .ld 1 false (.t 34), none⟩ ::⟨(some 36), .bin .add (.t 29) (.t 35), none⟩ ::⟨(some 37), .fa 1 (.t 6), none⟩ ::⟨(some 38), .ld 1 false (.t 37), none⟩ ::⟨(some 39), .mv (.t 7), none⟩ ::⟨(some 40), .ia 2 (.t 38) (.t 39), none⟩ ::⟨(some 41), .fa 1 (.t 40), none⟩ ::⟨(some 42), .ld 1 false (.t 41), none⟩ ::⟨(some 43), .bld [.int .i64 0, .int .i64 0] [(0, 1, (.t 36)), (1, 1, (.t 42))], none⟩ ::⟨(some 44), .bsl 1 2 [.int .i64 0, .int .i64 0] [(0, (.t 43))], none⟩ :: []) (⟨(some 45), .ap 2 16 (.t 27) (.t 44), none⟩ ::⟨(some 46), .fa 1 (.t 4), none⟩ ::⟨none, .st 1 (.t 46) (.t 45), none⟩ :: []))) (.reg (⟨(some 24), .mv (.t 7), none⟩ ::⟨(some 25), .bin .add (.t 24) (.c (.int .i64 1)), none⟩ ::⟨(some 7), .mv (.t 25), none⟩ :: []))))))) (.seq (.reg (⟨(some 47), .fa 0 (.t 4), none⟩ ::⟨(some 48), .ld 1 false (.t 47), none⟩ ::⟨(some 49), .fa 0 (.t 6), none⟩ ::⟨(some 50), .ld 1 false (.t 49), none⟩ ::⟨(some 51), .bin .add (.t 48) (.t 50), none⟩ ::⟨(some 52), .fa 0 (.t 4), none⟩ ::⟨none, .st 1 (.t 52) (.t 51), none⟩ :: [])) (.seq (.reg (⟨(some 53), .fa 0 (.t 4), none⟩ ::⟨(some 54), .ld 1 false (.t 53), none⟩ ::⟨(some 55), .bin .gtr (.t 54) (.c (.int .i64 4096)), none⟩ :: [])) (.cond (.t 55) (.seq (.reg (⟨(some 56), .bld [.int .i64 0, .nils] [], none⟩ ::⟨none, .st 2 (.t 2) (.t 56), none⟩ ::⟨(some 3), .mv (.c (.int .i64 5)), none⟩ :: [])) .ret) .skip)))))) (.reg (⟨(some 12), .mv (.t 5), none⟩ ::⟨(some 13), .bin .add (.t 12) (.c (.int .i64 1)), none⟩ ::⟨(some 5), .mv (.t 13), none⟩ :: []))))))) (.seq (.reg (⟨(some 57), .ld 2 true (.t 4), none⟩ ::⟨none, .st 2 (.t 2) (.t 57), none⟩ ::⟨(some 3), .mv (.c (.int .i64 0)), none⟩ :: [])) .ret))))
theorem cd_fretworkref09_Glue : Code1 Try.prog 46 58 ir_fretworkref09_Glue [.c 2 true 2, .t 3] := ⟨Try.call46, _, _, Try.func46, rfl, by kernel_rfl, by kernel_rfl, by kernel_rfl, by kernel_rfl⟩

set_option maxHeartbeats 8000000 in
theorem fs_r9Glue (vs : List Vc) (hl : vs.length ≤ 1000000000) (hv : ∀ v ∈ vs, v.2.length ≤ 400000000) : FS Try.prog 46 [VL vs] (VE (glR vs)) := by
  refine fs_of_cvc mixed cd_fretworkref09_Glue (by simp) ?_
  have hvl := vecs_len vs
  repeat' (conv => whnf); first
    | ((refine Br.beq (by rfl) ?_))
    | ((refine Br.bne (by rfl) ?_))
    | ((refine And.intro (Or.inl (Nat.zero_le _)) ?_))
    | ((refine And.intro (by intro y hy; simp at hy; subst hy; rfl) ?_))
    | (refine Br.tt ?_)
    | (refine Br.ff ?_)
    | (refine Br.dec (fun h => ?_) (fun h => ?_)) <;> try (exfalso; omega)
    | (refine Br.neg ?_)
    | (refine Br.mk (fun h => ?_) (fun h => ?_))
    | (refine And.intro rfl ?_)
    | (refine And.intro (by omega) ?_)
    | (refine ⟨_, Or.inl ⟨⟨by omega, by omega⟩, rfl⟩, ?_⟩)
    | (refine And.intro (by simp only [lens_all, its_len, vecs_len, mvI_len]; first | done | omega) ?_)
    | (refine And.intro (Nat.le_refl _) ?_)
    | fail
  refine ⟨Nat, fun k => k ≤ vs.length ∧ (glK vs k).1 ≤ 4096, fun k => [(0, VL vs), (2, .ptr 0 0 0 0), (4, .ptr 1 0 0 0), (5, .int .i64 (k : Int))], fun k => [.vars [.int .i64 0, .nils], .vars [.int .i64 (glK vs k).1, .osl 2 2 0 (glK vs k).2.length], .arr 2 (its (glK vs k).2)], fun _ => none, fun k => vs.length - k,
    ⟨0, ⟨Nat.zero_le _, by show (0 : Int) ≤ 4096; omega⟩, ⟨rfl, rfl, rfl, rfl, trivial⟩, ⟨⟨rfl, rfl, trivial⟩, ⟨rfl, ⟨Nat.le_refl _, rfl, rfl⟩, trivial⟩, rfl, trivial⟩, rfl⟩, fun k hk => ?_⟩
  obtain ⟨hk1, hk2⟩ := hk
  have hok := okV_glK vs k hk2
  have hol := hok.le
  have hn0 := hok.n0
  by_cases hkl : k < vs.length
  · obtain ⟨v, hx⟩ : ∃ v, vs.getD k (0, []) = v := ⟨_, rfl⟩
    have hvm : v ∈ vs := by rw [← hx]; simp [hkl]
    have hst := glK_more hkl
    rw [hx] at hst
    have c1 := fs_r9Sure v.1 v.2 (by have := hv v hvm; omega)
    have hvo := okV v.1 v.2
    have hfin := glK_mono vs (k + 1) (vs.length - (k + 1))
    rw [show k + 1 + (vs.length - (k + 1)) = vs.length by omega] at hfin
    have hs1 : (glK vs (k + 1)).1 = (glK vs k).1 + sn v.1 v.2 := by rw [hst]; rfl
    have hs2 : (glK vs (k + 1)).2 = (glK vs k).2 ++ mvI (glK vs k).1 (sl v.1 v.2) := by rw [hst]; rfl
    have hal := its_len (sl v.1 v.2)
    have hvle := hvo.le
    have hv0 := hvo.n0
    have hv1 := hvo.n1
    repeat' (conv => whnf); first
      | ((refine vecs_go (i := k) (by omega) hx ?_))
      | ((refine Or.inl ⟨by rfl, _, c1, ?_⟩))
      | ((refine Br.beq (by rfl) ?_))
      | ((refine Br.bne (by rfl) ?_))
      | ((refine And.intro (Or.inl (Nat.zero_le _)) ?_))
      | ((refine And.intro (by intro y hy; simp at hy; subst hy; rfl) ?_))
      | (refine Br.tt ?_)
      | (refine Br.ff ?_)
      | (refine Br.dec (fun h => ?_) (fun h => ?_)) <;> try (exfalso; omega)
      | (refine Br.neg ?_)
      | (refine Br.mk (fun h => ?_) (fun h => ?_))
      | (refine And.intro rfl ?_)
      | (refine And.intro (by omega) ?_)
      | (refine ⟨_, Or.inl ⟨⟨by omega, by omega⟩, rfl⟩, ?_⟩)
      | (refine And.intro (by simp only [lens_all]; first | done | omega) ?_)
      | (refine And.intro (Nat.le_refl _) ?_)
      | fail
    refine ⟨Nat, fun j => j ≤ (sl v.1 v.2).length, fun j => [(0, VL vs), (2, .ptr 0 0 0 0), (4, .ptr 1 0 0 0), (5, .int .i64 (k : Int)), (6, .ptr 3 0 0 0), (7, .int .i64 (j : Int))],
      fun j => [.vars [.int .i64 0, .nils], .vars [.int .i64 (glK vs k).1, .osl 2 2 0 ((glK vs k).2 ++ mvI (glK vs k).1 ((sl v.1 v.2).take j)).length], .arr 2 (its ((glK vs k).2 ++ mvI (glK vs k).1 ((sl v.1 v.2).take j))), .vars [.int .i64 (sn v.1 v.2), IL (sl v.1 v.2)]], fun _ => none, fun j => (sl v.1 v.2).length - j,
      ⟨0, Nat.zero_le _, ⟨rfl, rfl, rfl, rfl, rfl, rfl, trivial⟩, ⟨⟨rfl, rfl, trivial⟩, ⟨rfl, ?_, trivial⟩, ?_, ⟨rfl, rfl, trivial⟩, trivial⟩, rfl⟩, fun j hj => ?_⟩
    · exact congrArg (SV.osl 2 2 0) (by simp [mvI])
    · exact congrArg (fun l => Blk.arr 2 (its l)) (by simp [mvI])
    have hj : j ≤ (sl v.1 v.2).length := hj
    by_cases hjl : j < (sl v.1 v.2).length
    · obtain ⟨y, hy⟩ : ∃ y, (sl v.1 v.2).getD j (0, 0) = y := ⟨_, rfl⟩
      have hym : y ∈ sl v.1 v.2 := by rw [← hy]; simp [hjl]
      have hyb := hvo.lo y hym
      have hmore : (glK vs k).2 ++ mvI (glK vs k).1 ((sl v.1 v.2).take (j + 1)) = ((glK vs k).2 ++ mvI (glK vs k).1 ((sl v.1 v.2).take j)) ++ [((glK vs k).1 + y.1, y.2)] := by
        rw [vtake_more hjl, hy, List.append_assoc]
        unfold mvI
        rw [List.map_append]; rfl
      have hlen : ((glK vs k).2 ++ mvI (glK vs k).1 ((sl v.1 v.2).take j)).length ≤ 8192 := by
        rw [List.length_append, mvI_len, List.length_take]; omega
      have hil := its_len ((glK vs k).2 ++ mvI (glK vs k).1 ((sl v.1 v.2).take j))
      repeat' (conv => whnf); first
        | ((refine its_go' (i := j) (by omega) hy ?_))
        | ((refine Br.beq (by rfl) ?_))
        | ((refine Br.bne (by rfl) ?_))
        | ((refine And.intro (Or.inl (Nat.zero_le _)) ?_))
        | ((refine And.intro (by intro y hy; simp at hy; subst hy; rfl) ?_))
        | (refine Br.tt ?_)
        | (refine Br.ff ?_)
        | (refine Br.dec (fun h => ?_) (fun h => ?_)) <;> try (exfalso; omega)
        | (refine Br.neg ?_)
        | (refine Br.mk (fun h => ?_) (fun h => ?_))
        | (refine And.intro rfl ?_)
        | (refine And.intro (by omega) ?_)
        | (refine ⟨_, Or.inl ⟨⟨by omega, by omega⟩, rfl⟩, ?_⟩)
        | (refine And.intro (by simp only [lens_all, its_len, mvI_len]; first | done | omega) ?_)
        | (refine And.intro (Nat.le_refl _) ?_)
        | fail
      refine ⟨j + 1, (show j + 1 ≤ (sl v.1 v.2).length by omega), (show (sl v.1 v.2).length - (j + 1) < (sl v.1 v.2).length - j by omega), ⟨rfl, rfl, rfl, rfl, rfl, rfl, trivial⟩, ⟨⟨rfl, rfl, trivial⟩, ⟨rfl, ?_, trivial⟩, ?_, ⟨rfl, rfl, trivial⟩, trivial⟩, rfl⟩
      · rw [hmore]; exact congrArg (SV.osl 2 2 0) (by simp [Nat.add_assoc])
      · rw [hmore, its_append _ [_]]; rfl
    · obtain rfl : j = (sl v.1 v.2).length := by omega
      have htk : (sl v.1 v.2).take (sl v.1 v.2).length = sl v.1 v.2 := List.take_length
      by_cases hbig : (glK vs k).1 + sn v.1 v.2 ≤ 4096
      · repeat' (conv => whnf); first
          | ((refine Br.beq (by rfl) ?_))
          | ((refine Br.bne (by rfl) ?_))
          | ((refine And.intro (Or.inl (Nat.zero_le _)) ?_))
          | ((refine And.intro (by intro y hy; simp at hy; subst hy; rfl) ?_))
          | (refine Br.tt ?_)
          | (refine Br.ff ?_)
          | (refine Br.dec (fun h => ?_) (fun h => ?_)) <;> try (exfalso; omega)
          | (refine Br.neg ?_)
          | (refine Br.mk (fun h => ?_) (fun h => ?_))
          | (refine And.intro rfl ?_)
          | (refine And.intro (by omega) ?_)
          | (refine ⟨_, Or.inl ⟨⟨by omega, by omega⟩, rfl⟩, ?_⟩)
          | (refine And.intro (by simp only [lens_all, mvI_len]; first | done | omega) ?_)
          | (refine And.intro (Nat.le_refl _) ?_)
          | fail
        refine ⟨k + 1, ⟨by omega, by rw [hs1]; exact hbig⟩, (show vs.length - (k + 1) < vs.length - k by omega), ⟨rfl, rfl, rfl, rfl, trivial⟩, ⟨⟨rfl, rfl, trivial⟩, ⟨?_, ?_, trivial⟩, ?_, ⟨(show 2 ≤ 3 by omega), rfl, rfl⟩⟩, rfl⟩
        · rw [hs1]; exact rfl
        · rw [hs2]; exact congrArg (fun l => SV.osl 2 2 0 ((glK vs k).2 ++ mvI (glK vs k).1 l).length) htk
        · rw [hs2]; exact congrArg (fun l => Blk.arr 2 (its ((glK vs k).2 ++ mvI (glK vs k).1 l))) htk
      · repeat' (conv => whnf); first
          | ((refine Br.beq (by rfl) ?_))
          | ((refine Br.bne (by rfl) ?_))
          | ((refine And.intro (Or.inl (Nat.zero_le _)) ?_))
          | ((refine And.intro (by intro y hy; simp at hy; subst hy; rfl) ?_))
          | (refine Br.tt ?_)
          | (refine Br.ff ?_)
          | (refine Br.dec (fun h => ?_) (fun h => ?_)) <;> try (exfalso; omega)
          | (refine Br.neg ?_)
          | (refine Br.mk (fun h => ?_) (fun h => ?_))
          | (refine And.intro rfl ?_)
          | (refine And.intro (by omega) ?_)
          | (refine ⟨_, Or.inl ⟨⟨by omega, by omega⟩, rfl⟩, ?_⟩)
          | (refine And.intro (by simp only [lens_all, mvI_len]; first | done | omega) ?_)
          | (refine And.intro (Nat.le_refl _) ?_)
          | fail
        unfold glR
        rw [if_neg (by omega)]
        exact ⟨⟨rfl, rfl, trivial⟩, rfl, trivial⟩
  · obtain rfl : k = vs.length := by omega
    unfold glR
    rw [if_pos hk2]
    repeat' (conv => whnf); first
      | ((refine Br.beq (by rfl) ?_))
      | ((refine Br.bne (by rfl) ?_))
      | ((refine And.intro (Or.inl (Nat.zero_le _)) ?_))
      | ((refine And.intro (by intro y hy; simp at hy; subst hy; rfl) ?_))
      | (refine Br.tt ?_)
      | (refine Br.ff ?_)
      | (refine Br.dec (fun h => ?_) (fun h => ?_)) <;> try (exfalso; omega)
      | (refine Br.neg ?_)
      | (refine Br.mk (fun h => ?_) (fun h => ?_))
      | (refine And.intro rfl ?_)
      | (refine And.intro (by omega) ?_)
      | (refine ⟨_, Or.inl ⟨⟨by omega, by omega⟩, rfl⟩, ?_⟩)
      | (refine And.intro (by simp only [lens_all, its_len]; first | done | omega) ?_)
      | (refine And.intro (Nat.le_refl _) ?_)
      | fail
    conv => whnf
    rw [frz_its]
    rfl

/-! ### What two vectors, one behind the other, come to -/

theorem norm_add (x y : Int) : norm (norm x + y) = norm (x + y) := by unfold norm hi lo wrap64; omega
theorem norm_add' (x y : Int) : norm (x + norm y) = norm (x + y) := by unfold norm hi lo wrap64; omega
theorem rAdd_assoc {r : Int} (hr : isR r = true) (h2 : r ≠ 2) (x y z : Int) : rAdd r (rAdd r x y) z = rAdd r x (rAdd r y z) := by
  rcases isR_cases hr h2 with h | rfl
  · simp only [rAdd_lt3 h]
    (repeat' split) <;> omega
  · unfold rAdd
    rw [if_neg (by decide), if_neg (by decide), if_pos rfl, if_neg (by decide), if_neg (by decide), if_pos rfl, if_neg (by decide), if_neg (by decide), if_pos rfl, if_neg (by decide), if_neg (by decide), if_pos rfl, norm_add, norm_add', Int.add_assoc]
theorem addA_mvI (r b : Int) : ∀ (l : List (Int × Int)) (s : Int), addA r s (mvI b l) = addA r s l
  | [], _ => rfl
  | x :: l, s => addA_mvI r b l (rAdd r s x.2)
theorem addA_assoc {r : Int} (hr : isR r = true) (h2 : r ≠ 2) : ∀ (l : List (Int × Int)) (s t : Int), addA r (rAdd r s t) l = rAdd r s (addA r t l)
  | [], _, _ => rfl
  | x :: l, s, t => by
    show addA r (rAdd r (rAdd r s t) x.2) l = rAdd r s (addA r (rAdd r t x.2) l)
    rw [rAdd_assoc hr h2, addA_assoc hr h2 l]
theorem sumV_glue {r : Int} (hr : isR r = true) (h2 : r ≠ 2) {a b : List (Int × Int)} (ha : a ≠ []) (hb : b ≠ []) (k : Int) : sumV r (a ++ mvI k b) = rAdd r (sumV r a) (sumV r b) := by
  cases a with
  | nil => exact absurd rfl ha
  | cons x a =>
    cases b with
    | nil => exact absurd rfl hb
    | cons y b =>
      show addA r x.2 (a ++ mvI k (y :: b)) = rAdd r (addA r x.2 a) (addA r y.2 b)
      unfold addA
      rw [List.foldl_append]
      show addA r (addA r x.2 a) (mvI k (y :: b)) = rAdd r (addA r x.2 a) (addA r y.2 b)
      rw [addA_mvI]
      exact addA_assoc hr h2 b _ _
def ir_fretworklaw12_FoldParts : IR :=
(.seq (.reg (⟨(some 5), .bx (.t 2), none⟩ ::⟨(some 6), .mv (.c (.bool false)), none⟩ :: [])) (.seq (.draw (⟨(some 19), .mv (.t 1), none⟩ ::⟨(some 20), .iaA 2 1 (.t 5) (.c (.int .i64 0)), none⟩ ::⟨(some 21), .ld 1 false (.t 20), none⟩ ::⟨(some 22), .call (.c (.fn 31 [])) [(.t 19), (.t 21)], none⟩ ::⟨(some 23), .mv (.t 1), none⟩ ::⟨(some 24), .iaA 2 1 (.t 5) (.c (.int .i64 1)), none⟩ ::⟨(some 25), .ld 1 false (.t 24), none⟩ ::⟨(some 26), .call (.c (.fn 31 [])) [(.t 23), (.t 25)], none⟩ ::⟨(some 7), .al [.int .i64 0, .nils], none⟩ ::⟨(some 8), .al [.int .i64 0, .nils], none⟩ :: []) (⟨none, .st 2 (.t 7) (.t 22), none⟩ ::⟨none, .st 2 (.t 8) (.t 26), none⟩ :: [])) (.seq (.reg (⟨(some 28), .ld 2 true (.t 7), none⟩ ::⟨(some 29), .ld 2 true (.t 8), none⟩ ::⟨(some 30), .bsl 2 2 [.int .i64 0, .nils] [(0, (.t 28)), (1, (.t 29))], none⟩ ::⟨(some 31), .call (.c (.fn 46 [])) [(.t 30)], none⟩ ::⟨(some 27), .mv (.t 31), none⟩ ::⟨(some 32), .ex 0 (.t 27), none⟩ ::⟨(some 33), .ex 1 (.t 27), none⟩ ::⟨(some 9), .al [.int .i64 0, .nils], none⟩ ::⟨none, .st 2 (.t 9) (.t 32), none⟩ ::⟨(some 10), .mv (.t 33), none⟩ :: [])) (.seq (.seq (.reg (⟨(some 34), .mv (.t 0), none⟩ ::⟨(some 35), .call (.c (.fn 30 [])) [(.t 34)], none⟩ ::⟨(some 36), .un .not (.t 35), none⟩ ::⟨(some 37), .mv (.t 36), none⟩ ::⟨(some 38), .mv (.t 0), some (37, false)⟩ ::⟨(some 39), .bin .eql (.t 38) (.c (.int .i64 2)), some (37, false)⟩ ::⟨(some 40), .pick (.t 37) (.c (.bool true)) (.t 39), none⟩ ::⟨(some 41), .mv (.t 40), none⟩ ::⟨(some 42), .mv (.t 10), some (41, false)⟩ ::⟨(some 43), .bin .neq (.t 42) (.c (.int .i64 0)), some (41, false)⟩ ::⟨(some 44), .pick (.t 41) (.c (.bool true)) (.t 43), none⟩ ::⟨(some 45), .mv (.t 44), none⟩ ::⟨(some 46), .fa 1 (.t 7), some (45, false)⟩ ::⟨(some 47), .ld 1 false (.t 46), some (45, false)⟩ ::⟨(some 48), .ln (.t 47), some (45, false)⟩ ::⟨(some 49), .bin .eql (.t 48) (.c (.int .i64 0)), some (45, false)⟩ ::⟨(some 50), .pick (.t 45) (.c (.bool true)) (.t 49), none⟩ ::⟨(some 51), .mv (.t 50), none⟩ ::⟨(some 52), .fa 1 (.t 8), some (51, false)⟩ ::⟨(some 53), .ld 1 false (.t 52), some (51, false)⟩ ::⟨(some 54), .ln (.t 53), some (51, false)⟩ ::⟨(some 55), .bin .eql (.t 54) (.c (.int .i64 0)), some (51, false)⟩ ::⟨(some 56), .pick (.t 51) (.c (.bool true)) (.t 55), none⟩ :: [])) (.cond (.t 56) (.seq (.reg (⟨(some 57), .call (.c (.fn 37 [])) [], none⟩ ::⟨(some 6), .mv (.t 57), none⟩ :: [])) .ret) .skip)) (.seq (.reg (⟨(some 59), .mv (.t 0), none⟩ ::⟨(some 60), .ld 2 true (.t 7), none⟩ ::⟨(some 61), .call (.c (.fn 33 [])) [(.t 59), (.t 60)], none⟩ ::⟨(some 58), .mv (.t 61), none⟩ ::⟨(some 62), .ex 0 (.t 58), none⟩ ::⟨(some 63), .ex 1 (.t 58), none⟩ ::⟨(some 11), .mv (.t 62), none⟩ ::⟨(some 12), .mv (.t 63), none⟩ :: [])) (.seq (.reg (⟨(some 65), .mv (.t 0), none⟩ ::⟨(some 66), .ld 2 true (.t 8), none⟩ ::⟨(some 67), .call (.c (.fn 33 [])) [(.t 65), (.t 66)], none⟩ ::⟨(some 64), .mv (.t 67), none⟩ ::⟨(some 68), .ex 0 (.t 64), none⟩ ::⟨(some 69), .ex 1 (.t 64), none⟩ ::⟨(some 13), .mv (.t 68), none⟩ ::⟨(some 14), .mv (.t 69), none⟩ :: [])) (.seq (.reg (⟨(some 71), .mv (.t 0), none⟩ ::⟨(some 72), .ld 2 true (.t 9), none⟩ ::⟨(some 73), .call (.c (.fn 33 [])) [(.t 71), (.t 72)], none⟩ ::⟨(some 70), .mv (.t 73), none⟩ ::⟨(some 74), .ex 0 (.t 70), none⟩ ::⟨(some 75), .ex 1 (.t 70), none⟩ ::⟨(some 15), .mv (.t 74), none⟩ ::⟨(some 16), .mv (.t 75), none⟩ :: [])) (.seq (.reg (⟨(some 77), .mv (.t 0), none⟩ ::⟨(some 78), .mv (.t 11), none⟩ ::⟨(some 79), .call (.c (.fn 49 [])) [(.t 78)], none⟩ ::⟨(some 80), .mv (.t 13), none⟩ ::⟨(some 81), .call (.c (.fn 49 [])) [(.t 80)], none⟩ ::⟨(some 82), .call (.c (.fn 48 [])) [(.t 77), (.t 79), (.t 81)], none⟩ ::⟨(some 83), .call (.c (.fn 47 [])) [(.t 82)], none⟩ ::⟨(some 76), .mv (.t 83), none⟩ ::⟨(some 84), .ex 0 (.t 76), none⟩ ::⟨(some 85), .ex 1 (.t 76), none⟩ ::⟨(some 17), .mv (.t 84), none⟩ ::⟨(some 18), .mv (.t 85), none⟩ :: [])) (.seq (.reg (⟨(some 86), .call (.c (.fn 37 [])) [], none⟩ ::⟨(some 87), .mv (.t 86), none⟩ ::⟨(some 88), .mv (.t 12), some (87, true)⟩ ::⟨(some 89), .bin .neq (.t 88) (.c (.int .i64 0)), some (87, true)⟩ ::⟨(some 90), .mv (.t 89), some (87, true)⟩ ::⟨(some 91), .mv (.t 14), some (90, false)⟩ ::⟨(some 92), .bin .neq (.t 91) (.c (.int .i64 0)), some (90, false)⟩ ::⟨(some 93), .pick (.t 90) (.c (.bool true)) (.t 92), some (87, true)⟩ ::⟨(some 94), .mv (.t 93), some (87, true)⟩ ::⟨(some 95), .mv (.t 16), some (94, false)⟩ ::⟨(some 96), .bin .eql (.t 95) (.c (.int .i64 0)), some (94, false)⟩ ::⟨(some 97), .mv (.t 18), some (94, false)⟩ ::⟨(some 98), .beq false (.t 96) (.t 97), some (94, false)⟩ ::⟨(some 99), .mv (.t 98), some (94, false)⟩ ::⟨(some 100), .mv (.t 18), some (99, true)⟩ ::⟨(some 101), .un .not (.t 100), some (99, true)⟩ ::⟨(some 102), .mv (.t 101), some (99, true)⟩ ::⟨(some 103), .mv (.t 15), some (102, false)⟩ ::⟨(some 104), .mv (.t 17), some (102, false)⟩ ::⟨(some 105), .bin .eql (.t 103) (.t 104), some (102, false)⟩ ::⟨(some 106), .pick (.t 102) (.c (.bool true)) (.t 105), some (99, true)⟩ ::⟨(some 107), .pick (.t 99) (.t 106) (.c (.bool false)), some (94, false)⟩ ::⟨(some 108), .pick (.t 94) (.c (.bool true)) (.t 107), some (87, true)⟩ ::⟨(some 109), .pick (.t 87) (.t 108) (.c (.bool false)), none⟩ ::⟨(some 6), .mv (.t 109), none⟩ :: [])) .ret)))))))))
theorem cd_fretworklaw12_FoldParts : Code1 Try.prog 11 110 ir_fretworklaw12_FoldParts [.t 6] := ⟨Try.call11, _, _, Try.func11, rfl, by kernel_rfl, by kernel_rfl, by kernel_rfl, by kernel_rfl⟩

set_option maxHeartbeats 16000000 in
theorem fs_FoldParts (r n : Int) (p q : List (Int × Int)) (hn : 0 ≤ n ∧ n ≤ 255) (hp : Ib p) (hq : Ib q) : FS Try.prog 11 [.int .i64 r, .int .u8 n, .agg [IL p, IL q]] (.bool true) := by
  refine fs_of_cvc mixed cd_fretworklaw12_FoldParts (by simp) ?_
  have ct1 := fs_Some n p hn hp
  have ct2 := fs_Some n q hn hq
  obtain ⟨a, ea, ha, ia, la⟩ := sm_ok hn hp
  obtain ⟨b, eb, hb, ib, lb⟩ := sm_ok hn hq
  have hK := tmod_bd hn.1 (show (0 : Int) < 60 by omega)
  rw [ea] at ct1
  rw [eb] at ct2
  generalize n.tmod 60 = K at *
  have c1 := fs_r9Glue [(K, a), (K, b)] (by simp) (by
    intro v hv; simp at hv; rcases hv with rfl | rfl
    · show a.length ≤ _; omega
    · show b.length ≤ _; omega)
  have eg : glR [(K, a), (K, b)] = (0 + K + K, [] ++ mvI 0 a ++ mvI (0 + K) b, 0) := by
    have h2 : glK [(K, a), (K, b)] 2 = (0 + K + K, [] ++ mvI 0 a ++ mvI (0 + K) b) := by
      show (0 + sn K a + sn K b, [] ++ mvI 0 (sl K a) ++ mvI (0 + sn K a) (sl K b)) = _
      rw [ha.sn, ha.sl, hb.sn, hb.sl]
    unfold glR
    rw [show [(K, a), (K, b)].length = 2 from rfl, h2, if_pos (by show 0 + K + K ≤ 4096; omega)]
  rw [eg] at c1
  have hmv : mvI 0 a = a := by
    unfold mvI
    exact (List.map_congr_left (g := id) fun x _ => by rw [Int.zero_add]; rfl).trans (List.map_id _)
  rw [hmv, List.nil_append, Int.zero_add] at c1
  have c0 := fs_r2Is r
  have hal := its_len a
  have hbl := its_len b
  have hog : OkV (K + K) (a ++ mvI K b) := by
    have := okV_glS (s := (K, a)) (v := (K, b)) ha (by rw [hb.sn]; show K + K ≤ 4096; omega)
    unfold glS at this
    rw [hb.sn, hb.sl] at this
    exact this
  have big : Ib (a ++ mvI K b) := fun x hx => by
    rcases List.mem_append.1 hx with hx | hx
    · exact ia x hx
    · obtain ⟨y, hy, rfl⟩ := List.mem_map.1 hx
      have := hb.lo y hy
      exact ⟨by show I64 (K + y.1); unfold I64; omega, (ib y hy).2⟩
  have c2 := fs_Reduce r K a (by omega) ia
  have c3 := fs_Reduce r K b (by omega) ib
  have c4 := fs_Reduce r (K + K) (a ++ mvI K b) (by have := hog.le; omega) big
  have e2 : redR r K a = if isR r = true then (if fits (sumV r a) = true then (nar (sumV r a), 0) else (0, 12)) else (0, 8) := by unfold redR; rw [ha.sl]
  have e3 : redR r K b = if isR r = true then (if fits (sumV r b) = true then (nar (sumV r b), 0) else (0, 12)) else (0, 8) := by unfold redR; rw [hb.sl]
  have e4 : redR r (K + K) (a ++ mvI K b) = if isR r = true then (if fits (sumV r (a ++ mvI K b)) = true then (nar (sumV r (a ++ mvI K b)), 0) else (0, 12)) else (0, 8) := by unfold redR; rw [hog.sl]
  rw [e2] at c2
  rw [e3] at c3
  rw [e4] at c4
  by_cases skip : isR r = false ∨ r = 2 ∨ a = [] ∨ b = []
  · rcases skip with h | h | h | h
    · rw [h] at c0
      repeat' (conv => whnf); first
        | ((refine Or.inl ⟨by rfl, _, ct1, ?_⟩))
        | ((refine Or.inl ⟨by rfl, _, ct2, ?_⟩))
        | ((refine Or.inl ⟨by rfl, _, c1, ?_⟩))
        | ((refine Or.inl ⟨by rfl, _, c0, ?_⟩))
        | ((refine Or.inl ⟨by rfl, _, fs_live12, ?_⟩))
        | ((refine Br.beq (by rfl) ?_))
        | ((refine Br.bne (by rfl) ?_))
        | ((refine And.intro (Or.inl (Nat.zero_le _)) ?_))
        | ((refine And.intro (by intro y hy; simp at hy; subst hy; rfl) ?_))
        | (refine Br.tt ?_)
        | (refine Br.ff ?_)
        | (refine Br.dec (fun h => ?_) (fun h => ?_)) <;> try (exfalso; omega)
        | (refine Br.neg ?_)
        | (refine Br.mk (fun h => ?_) (fun h => ?_))
        | (refine And.intro rfl ?_)
        | (refine And.intro (by omega) ?_)
        | (refine ⟨_, Or.inl ⟨⟨by omega, by omega⟩, rfl⟩, ?_⟩)
        | (refine And.intro (by simp only [lens_all]; first | done | omega) ?_)
        | (refine And.intro (Nat.le_refl _) ?_)
        | fail
      all_goals exact rfl
    · cases hR : isR r <;> rw [hR] at c0
      all_goals
        repeat' (conv => whnf); first
          | ((refine Or.inl ⟨by rfl, _, ct1, ?_⟩))
          | ((refine Or.inl ⟨by rfl, _, ct2, ?_⟩))
          | ((refine Or.inl ⟨by rfl, _, c1, ?_⟩))
          | ((refine Or.inl ⟨by rfl, _, c0, ?_⟩))
          | ((refine Or.inl ⟨by rfl, _, fs_live12, ?_⟩))
          | ((refine Br.beq (by rfl) ?_))
          | ((refine Br.bne (by rfl) ?_))
          | ((refine And.intro (Or.inl (Nat.zero_le _)) ?_))
          | ((refine And.intro (by intro y hy; simp at hy; subst hy; rfl) ?_))
          | (refine Br.tt ?_)
          | (refine Br.ff ?_)
          | (refine Br.dec (fun h => ?_) (fun h => ?_)) <;> try (exfalso; omega)
          | (refine Br.neg ?_)
          | (refine Br.mk (fun h => ?_) (fun h => ?_))
          | (refine And.intro rfl ?_)
          | (refine And.intro (by omega) ?_)
          | (refine ⟨_, Or.inl ⟨⟨by omega, by omega⟩, rfl⟩, ?_⟩)
          | (refine And.intro (by simp only [lens_all]; first | done | omega) ?_)
          | (refine And.intro (Nat.le_refl _) ?_)
          | fail
        all_goals exact rfl
    · subst h
      have hal0 : (its []).length = 0 := rfl
      cases hR : isR r <;> rw [hR] at c0
      all_goals
        repeat' (conv => whnf); first
          | ((refine Or.inl ⟨by rfl, _, ct1, ?_⟩))
          | ((refine Or.inl ⟨by rfl, _, ct2, ?_⟩))
          | ((refine Or.inl ⟨by rfl, _, c1, ?_⟩))
          | ((refine Or.inl ⟨by rfl, _, c0, ?_⟩))
          | ((refine Or.inl ⟨by rfl, _, fs_live12, ?_⟩))
          | ((refine Br.beq (by rfl) ?_))
          | ((refine Br.bne (by rfl) ?_))
          | ((refine And.intro (Or.inl (Nat.zero_le _)) ?_))
          | ((refine And.intro (by intro y hy; simp at hy; subst hy; rfl) ?_))
          | (refine Br.tt ?_)
          | (refine Br.ff ?_)
          | (refine Br.dec (fun h => ?_) (fun h => ?_)) <;> try (exfalso; omega)
          | (refine Br.neg ?_)
          | (refine Br.mk (fun h => ?_) (fun h => ?_))
          | (refine And.intro rfl ?_)
          | (refine And.intro (by omega) ?_)
          | (refine ⟨_, Or.inl ⟨⟨by omega, by omega⟩, rfl⟩, ?_⟩)
          | (refine And.intro (by simp only [lens_all]; first | done | omega) ?_)
          | (refine And.intro (Nat.le_refl _) ?_)
          | fail
        all_goals exact rfl
    · subst h
      have hbl0 : (its []).length = 0 := rfl
      cases hR : isR r <;> rw [hR] at c0
      all_goals
        repeat' (conv => whnf); first
          | ((refine Or.inl ⟨by rfl, _, ct1, ?_⟩))
          | ((refine Or.inl ⟨by rfl, _, ct2, ?_⟩))
          | ((refine Or.inl ⟨by rfl, _, c1, ?_⟩))
          | ((refine Or.inl ⟨by rfl, _, c0, ?_⟩))
          | ((refine Or.inl ⟨by rfl, _, fs_live12, ?_⟩))
          | ((refine Br.beq (by rfl) ?_))
          | ((refine Br.bne (by rfl) ?_))
          | ((refine And.intro (Or.inl (Nat.zero_le _)) ?_))
          | ((refine And.intro (by intro y hy; simp at hy; subst hy; rfl) ?_))
          | (refine Br.tt ?_)
          | (refine Br.ff ?_)
          | (refine Br.dec (fun h => ?_) (fun h => ?_)) <;> try (exfalso; omega)
          | (refine Br.neg ?_)
          | (refine Br.mk (fun h => ?_) (fun h => ?_))
          | (refine And.intro rfl ?_)
          | (refine And.intro (by omega) ?_)
          | (refine ⟨_, Or.inl ⟨⟨by omega, by omega⟩, rfl⟩, ?_⟩)
          | (refine And.intro (by simp only [lens_all]; first | done | omega) ?_)
          | (refine And.intro (Nat.le_refl _) ?_)
          | fail
        all_goals exact rfl
  · have hR : isR r = true := by cases h : isR r <;> simp_all
    have h2 : r ≠ 2 := fun h => skip (.inr (.inl h))
    have na : a ≠ [] := fun h => skip (.inr (.inr (.inl h)))
    have nb : b ≠ [] := fun h => skip (.inr (.inr (.inr h)))
    have pa := List.length_pos_iff.2 na
    have pb := List.length_pos_iff.2 nb
    rw [sumV_glue hR h2 na nb] at c4
    have wa := sumV_w (r := r) ia
    have wb := sumV_w (r := r) ib
    rw [hR, if_pos rfl] at c2 c3 c4
    rw [hR] at c0
    generalize hS : sumV r a = S at *
    generalize hT : sumV r b = T at *
    have nI : ∀ x, I64 (nar x) := fun x => by
      unfold nar
      split
      · rename_i h; exact i_of_fits h
      · unfold I64; omega
    have c5 := fs_r1Of (nar S) (nI S)
    have c6 := fs_r1Of (nar T) (nI T)
    have c7 := fs_r2Add r (nar S) (nar T) (W64i (nI S)) (W64i (nI T))
    have c8 := fs_r1Narrow (rAdd r (nar S) (nar T)) (rAdd_w (W64i (nI S)) (W64i (nI T)))
    have dn : ∀ x, (if fits x = true then (nar x, (0 : Int)) else (0, 12)) = (nar x, if fits x = true then 0 else 12) := fun x => by
      unfold nar
      cases fits x <;> rfl
    rw [dn] at c2 c3 c4
    have hnS : fits S = true → nar S = S := fun h => if_pos h
    have hnT : fits T = true → nar T = T := fun h => if_pos h
    have key : fits S = true → fits T = true → rAdd r (nar S) (nar T) = rAdd r S T := fun h h' => by rw [hnS h, hnT h']
    generalize hU : rAdd r (nar S) (nar T) = U at *
    generalize rAdd r S T = V at *
    cases fS : fits S <;> cases fT : fits T <;> cases fU : fits U <;> cases fV : fits V
    all_goals
      rw [fS] at c2
      rw [fT] at c3
      rw [fU] at c8
      rw [fV] at c4
      try (have kk := key fS fT; subst kk; rw [fU] at fV; first | cases fV | skip)
      repeat' (conv => whnf); first
        | ((refine Or.inl ⟨by rfl, _, ct1, ?_⟩))
        | ((refine Or.inl ⟨by rfl, _, ct2, ?_⟩))
        | ((refine Or.inl ⟨by rfl, _, c1, ?_⟩))
        | ((refine Or.inl ⟨by rfl, _, c0, ?_⟩))
        | ((refine Or.inl ⟨by rfl, _, fs_live12, ?_⟩))
        | ((refine Or.inl ⟨by rfl, _, c2, ?_⟩))
        | ((refine Or.inl ⟨by rfl, _, c3, ?_⟩))
        | ((refine Or.inl ⟨by rfl, _, c4, ?_⟩))
        | ((refine Or.inl ⟨by rfl, _, c5, ?_⟩))
        | ((refine Or.inl ⟨by rfl, _, c6, ?_⟩))
        | ((refine Or.inl ⟨by rfl, _, c7, ?_⟩))
        | ((refine Or.inl ⟨by rfl, _, c8, ?_⟩))
        | ((refine Br.beq (by rfl) ?_))
        | ((refine Br.bne (by rfl) ?_))
        | ((refine And.intro (Or.inl (Nat.zero_le _)) ?_))
        | ((refine And.intro (by intro y hy; simp at hy; subst hy; rfl) ?_))
        | (refine Br.tt ?_)
        | (refine Br.ff ?_)
        | (refine Br.dec (fun h => ?_) (fun h => ?_)) <;> try (exfalso; omega)
        | (refine Br.neg ?_)
        | (refine Br.mk (fun h => ?_) (fun h => ?_))
        | (refine And.intro rfl ?_)
        | (refine And.intro (by omega) ?_)
        | (refine ⟨_, Or.inl ⟨⟨by omega, by omega⟩, rfl⟩, ?_⟩)
        | (refine And.intro (by simp only [lens_all]; first | done | omega) ?_)
        | (refine And.intro (Nat.le_refl _) ?_)
        | fail
      all_goals first
        | exact rfl
        | (show SV.bool (decide _) = SV.bool true; simp; done)
end
section
open Go.RowKit
attribute [local irreducible] FS FO IT HS

/-- Unlike places of so many. -/
structure Unl (K : Int) (at' : List Int) : Prop where
  lo : ∀ i, i < at'.length → 0 ≤ at'.getD i 0 ∧ at'.getD i 0 < K
  ne : ∀ i j, i < at'.length → j < at'.length → at'.getD i 0 = at'.getD j 0 → i = j

theorem gt_rest {p : Int} {l : List (Int × Int)} {k : Int} : gt (rest (fun y => decide (y.1 = p)) l) k = if k = p then none else gt l k := by
  rw [← gt_filter_ne]
  unfold rest
  congr 2
  funext y
  by_cases h : y.1 = p <;> simp [h]
theorem gt_asS {N : Int} {m : List (Int × Int)} (h : OkV N m) (o : Option Int) {p : Int} (hp : 0 ≤ p ∧ p < N) (q : Int) : gt (asS N o p m) q = if q = p then o else gt m q := by
  unfold asS
  cases o with
  | some v =>
    show gt (putR N m p v) q = _
    rw [gt_putR h]
    by_cases e : q = p
    · rw [if_pos ⟨e, hp⟩, if_pos e]
    · rw [if_neg (fun h => e h.1), if_neg e]
  | none => exact gt_rest
theorem gt_asK_miss {K : Int} {a x : List (Int × Int)} {at' : List Int} (ha : OkV K a) (hu : Unl K at') (p : Int) : ∀ k, k ≤ at'.length → (∀ i, i < k → at'.getD i 0 ≠ p) → gt (asK K a x at' k) p = gt a p
  | 0, _, _ => rfl
  | k + 1, hk, h => by
    show gt (asS K _ (at'.getD k 0) (asK K a x at' k)) p = _
    rw [gt_asS (okV_asK ha x at' k) _ (hu.lo k (by omega)), if_neg (fun e => h k (by omega) e.symm), gt_asK_miss ha hu p k (by omega) fun i hi => h i (by omega)]
theorem gt_asK_hit {K : Int} {a x : List (Int × Int)} {at' : List Int} (ha : OkV K a) (hu : Unl K at') {i : Nat} : ∀ k, k ≤ at'.length → i < k → gt (asK K a x at' k) (at'.getD i 0) = gt x (i : Int)
  | 0, _, hi => by omega
  | k + 1, hk, hi => by
    show gt (asS K _ (at'.getD k 0) (asK K a x at' k)) (at'.getD i 0) = _
    rw [gt_asS (okV_asK ha x at' k) _ (hu.lo k (by omega))]
    by_cases e : i = k
    · subst e; rw [if_pos rfl]
    · rw [if_neg (fun h => e (hu.ne i k (by omega) (by omega) h)), gt_asK_hit ha hu k (by omega) (by omega)]
theorem selK_tab (a : List (Int × Int)) (at' : List Int) (k : Nat) : selK a at' k = tabL (fun q => gt a (at'.getD q.toNat 0)) k := by
  unfold selK tabL
  congr 1
theorem okV_selK {a : List (Int × Int)} {at' : List Int} (h : at'.length ≤ 4096) : OkV (at'.length : Int) (selK a at' at'.length) := by
  have := okV_tab (K := (at'.length : Int)) (by omega) (by omega) fun q => gt a (at'.getD q.toNat 0)
  rwa [show ((at'.length : Int)).toNat = at'.length by omega, ← selK_tab] at this
theorem gt_selK (a : List (Int × Int)) (at' : List Int) (k : Nat) (q : Int) : gt (selK a at' k) q = if 0 ≤ q ∧ q < k then gt a (at'.getD q.toNat 0) else none := by
  rw [selK_tab, gt_tabL]

/-- The two laws. -/
theorem sel_as {K : Int} {a x : List (Int × Int)} {at' : List Int} (ha : OkV K a) (hu : Unl K at') (hl : at'.length ≤ 4096) (hx : OkV (at'.length : Int) x) : selK (asK K a x at' at'.length) at' at'.length = x := by
  refine up_ext (okV_selK hl).up hx.up fun q => ?_
  rw [gt_selK]
  by_cases h : 0 ≤ q ∧ q < (at'.length : Int)
  · rw [if_pos h, gt_asK_hit ha hu _ (Nat.le_refl _) (by omega), show ((q.toNat : Nat) : Int) = q by omega]
  · rw [if_neg h, hx.out h]
theorem as_sel {K : Int} {a : List (Int × Int)} {at' : List Int} (ha : OkV K a) (hu : Unl K at') : asK K a (selK a at' at'.length) at' at'.length = a := by
  refine up_ext (okV_asK ha _ _ _).up ha.up fun p => ?_
  by_cases h : ∃ i, i < at'.length ∧ at'.getD i 0 = p
  · obtain ⟨i, hi, rfl⟩ := h
    rw [gt_asK_hit ha hu _ (Nat.le_refl _) hi, gt_selK, if_pos (by omega), show ((i : Nat) : Int).toNat = i by omega]
  · exact gt_asK_miss ha hu p _ (Nat.le_refl _) fun i hi e => h ⟨i, hi, e⟩
theorem unl_any {K : Int} {at' : List Int} (hu : Unl K at') : at'.any (outB K) = false := by
  rw [List.any_eq_false]
  intro x hx
  obtain ⟨i, hi, rfl⟩ := List.mem_iff_getElem.1 hx
  have := hu.lo i hi
  rw [List.getD_eq_getElem?_getD, List.getElem?_eq_getElem hi] at this
  simp only [Option.getD_some] at this
  unfold outB
  simp; omega

/-- A set's places, up to one. -/
def plc (f : List Nat) (K : Int) : List Int := (bits (if K ≤ 0 then [] else partN f 0 K)).map fun (i : Nat) => (i : Int)
theorem I_Z (l : List Nat) : I l = Z (l.map fun (i : Nat) => (i : Int)) := by simp [I, Z, ints, zs]
theorem unl_plc {f : List Nat} {K : Int} (h0 : 0 ≤ K) : Unl K (plc f K) ∧ ((plc f K).length : Int) ≤ K := by
  by_cases hK : K ≤ 0
  · have : plc f K = [] := by unfold plc; rw [if_pos hK]; rfl
    rw [this]
    exact ⟨⟨fun i h => by simp at h, fun i j h => by simp at h⟩, by simpa using h0⟩
  · have hw : Wd (partN f 0 K) := puts_wd _ _ _ (wd_zero _)
    have hs := bits_sorted hw
    have e : plc f K = (bits (partN f 0 K)).map fun (i : Nat) => (i : Int) := by unfold plc; rw [if_neg hK]
    have hlo : ∀ x ∈ bits (partN f 0 K), (x : Int) < K := fun x hx => by
      obtain ⟨_, h2⟩ := (bits_mem hw).1 hx
      unfold partN at h2
      rw [hasN_puts, hasN_zero, Bool.false_or, Bool.and_eq_true, List.any_eq_true] at h2
      obtain ⟨_, y, _, hy⟩ := h2
      rw [beq_iff_eq] at hy
      split at hy
      · rename_i h
        have := Option.some.inj hy
        omega
      · cases hy
    have hget : ∀ i, i < (plc f K).length → ∃ n, (bits (partN f 0 K))[i]? = some n ∧ (plc f K).getD i 0 = (n : Int) := fun i hi => by
      rw [e] at hi ⊢
      have hi' : i < (bits (partN f 0 K)).length := by simpa using hi
      exact ⟨_, List.getElem?_eq_getElem hi', by simp [hi']⟩
    have hlt : ∀ i j n m, i < j → (bits (partN f 0 K))[i]? = some n → (bits (partN f 0 K))[j]? = some m → n < m := fun i j n m hij hn hm => by
      obtain ⟨h1, rfl⟩ := List.getElem?_eq_some_iff.1 hn
      obtain ⟨h2, rfl⟩ := List.getElem?_eq_some_iff.1 hm
      exact List.pairwise_iff_getElem.1 hs i j h1 h2 hij
    refine ⟨⟨fun i hi => ?_, fun i j hi hj he => ?_⟩, ?_⟩
    · obtain ⟨n, h1, h2⟩ := hget i hi
      have := hlo n (List.mem_of_getElem? h1)
      rw [h2]; omega
    · obtain ⟨n, h1, h2⟩ := hget i hi
      obtain ⟨m, h3, h4⟩ := hget j hj
      rw [h2, h4] at he
      have hnm : n = m := by omega
      rcases Nat.lt_trichotomy i j with h | h | h
      · have := hlt i j n m h h1 h3; omega
      · exact h
      · have := hlt j i m n h h3 h1; omega
    · -- below K they are K at most
      have hk : ∀ (j n : Nat), (bits (partN f 0 K))[j]? = some n → j ≤ n := by
        intro j
        induction j with
        | zero => intro n _; omega
        | succ j ih =>
          intro n hn
          have hj : j < (bits (partN f 0 K)).length := by have := (List.getElem?_eq_some_iff.1 hn).1; omega
          have h1 := ih _ (List.getElem?_eq_getElem hj)
          have h2 := hlt j (j + 1) _ n (by omega) (List.getElem?_eq_getElem hj) hn
          omega
      have hle : (plc f K).length = (bits (partN f 0 K)).length := by rw [e]; simp
      rcases Nat.eq_zero_or_pos (bits (partN f 0 K)).length with h | h
      · rw [hle, h]; omega
      · have h1 := hk _ _ (List.getElem?_eq_getElem (show (bits (partN f 0 K)).length - 1 < _ by omega))
        have h2 := hlo _ (List.getElem_mem (show (bits (partN f 0 K)).length - 1 < (bits (partN f 0 K)).length by omega))
        rw [hle]; omega

def ir_fretworklaw12_FoldBack : IR :=
(.seq (.reg (⟨(some 4), .bx (.t 1), none⟩ ::⟨(some 6), .mv (.c (.bool false)), none⟩ :: [])) (.seq (.seq (.reg (⟨(some 18), .mv (.t 2), none⟩ ::⟨(some 19), .ln (.t 18), none⟩ ::⟨(some 20), .bin .gtr (.t 19) (.c (.int .i64 4)), none⟩ :: [])) (.cond (.t 20) (.seq (.reg (⟨(some 21), .call (.c (.fn 37 [])) [], none⟩ ::⟨(some 6), .mv (.t 21), none⟩ :: [])) .ret) .skip)) (.seq (.reg (⟨(some 22), .mv (.t 0), none⟩ ::⟨(some 23), .iaA 2 1 (.t 4) (.c (.int .i64 0)), none⟩ ::⟨(some 24), .ld 1 false (.t 23), none⟩ ::⟨(some 25), .call (.c (.fn 31 [])) [(.t 22), (.t 24)], none⟩ ::⟨(some 7), .al [.int .i64 0, .nils], none⟩ ::⟨none, .st 2 (.t 7) (.t 25), none⟩ :: [])) (.seq (.reg (⟨(some 26), .mv (.t 2), none⟩ ::⟨(some 27), .fa 0 (.t 7), none⟩ ::⟨(some 28), .ld 1 false (.t 27), none⟩ ::⟨(some 29), .call (.c (.fn 52 [])) [(.t 26), (.c (.int .i64 0)), (.t 28)], none⟩ ::⟨(some 30), .call (.c (.fn 51 [])) [(.t 29)], none⟩ ::⟨(some 8), .mv (.t 30), none⟩ :: [])) (.seq (.reg (⟨(some 31), .mv (.t 8), none⟩ ::⟨(some 32), .ln (.t 31), none⟩ ::⟨(some 33), .cv .u8 (.t 32), none⟩ ::⟨(some 34), .iaA 2 1 (.t 4) (.c (.int .i64 1)), none⟩ ::⟨(some 35), .ld 1 false (.t 34), none⟩ ::⟨(some 36), .call (.c (.fn 31 [])) [(.t 33), (.t 35)], none⟩ ::⟨(some 9), .al [.int .i64 0, .nils], none⟩ ::⟨none, .st 2 (.t 9) (.t 36), none⟩ :: [])) (.seq (.reg (⟨(some 38), .ld 2 true (.t 7), none⟩ ::⟨(some 39), .mv (.t 8), none⟩ ::⟨(some 40), .ld 2 true (.t 9), none⟩ ::⟨(some 41), .call (.c (.fn 44 [])) [(.t 38), (.t 39), (.t 40)], none⟩ ::⟨(some 37), .mv (.t 41), none⟩ ::⟨(some 42), .ex 0 (.t 37), none⟩ ::⟨(some 43), .ex 1 (.t 37), none⟩ ::⟨(some 10), .al [.int .i64 0, .nils], none⟩ ::⟨none, .st 2 (.t 10) (.t 42), none⟩ ::⟨(some 11), .mv (.t 43), none⟩ :: [])) (.seq (.reg (⟨(some 45), .ld 2 true (.t 10), none⟩ ::⟨(some 46), .mv (.t 8), none⟩ ::⟨(some 47), .call (.c (.fn 42 [])) [(.t 45), (.t 46)], none⟩ ::⟨(some 44), .mv (.t 47), none⟩ ::⟨(some 48), .ex 0 (.t 44), none⟩ ::⟨(some 49), .ex 1 (.t 44), none⟩ ::⟨(some 12), .al [.int .i64 0, .nils], none⟩ ::⟨none, .st 2 (.t 12) (.t 48), none⟩ ::⟨(some 13), .mv (.t 49), none⟩ :: [])) (.seq (.reg (⟨(some 51), .ld 2 true (.t 7), none⟩ ::⟨(some 52), .mv (.t 8), none⟩ ::⟨(some 53), .call (.c (.fn 42 [])) [(.t 51), (.t 52)], none⟩ ::⟨(some 50), .mv (.t 53), none⟩ ::⟨(some 54), .ex 0 (.t 50), none⟩ ::⟨(some 55), .ex 1 (.t 50), none⟩ ::⟨(some 14), .al [.int .i64 0, .nils], none⟩ ::⟨none, .st 2 (.t 14) (.t 54), none⟩ ::⟨(some 15), .mv (.t 55), none⟩ :: [])) (.seq (.reg (⟨(some 57), .ld 2 true (.t 7), none⟩ ::⟨(some 58), .mv (.t 8), none⟩ ::⟨(some 59), .ld 2 true (.t 14), none⟩ ::⟨(some 60), .call (.c (.fn 44 [])) [(.t 57), (.t 58), (.t 59)], none⟩ ::⟨(some 56), .mv (.t 60), none⟩ ::⟨(some 61), .ex 0 (.t 56), none⟩ ::⟨(some 62), .ex 1 (.t 56), none⟩ ::⟨(some 16), .al [.int .i64 0, .nils], none⟩ ::⟨none, .st 2 (.t 16) (.t 61), none⟩ ::⟨(some 17), .mv (.t 62), none⟩ :: [])) (.seq (.reg (⟨(some 63), .call (.c (.fn 37 [])) [], none⟩ ::⟨(some 64), .mv (.t 63), none⟩ ::⟨(some 65), .mv (.t 11), some (64, true)⟩ ::⟨(some 66), .bin .eql (.t 65) (.c (.int .i64 0)), some (64, true)⟩ ::⟨(some 67), .pick (.t 64) (.t 66) (.c (.bool false)), none⟩ ::⟨(some 68), .mv (.t 67), none⟩ ::⟨(some 69), .mv (.t 13), some (68, true)⟩ ::⟨(some 70), .bin .eql (.t 69) (.c (.int .i64 0)), some (68, true)⟩ ::⟨(some 71), .pick (.t 68) (.t 70) (.c (.bool false)), none⟩ ::⟨(some 72), .mv (.t 71), none⟩ ::⟨(some 73), .mv (.t 15), some (72, true)⟩ ::⟨(some 74), .bin .eql (.t 73) (.c (.int .i64 0)), some (72, true)⟩ ::⟨(some 75), .pick (.t 72) (.t 74) (.c (.bool false)), none⟩ ::⟨(some 76), .mv (.t 75), none⟩ ::⟨(some 77), .mv (.t 17), some (76, true)⟩ ::⟨(some 78), .bin .eql (.t 77) (.c (.int .i64 0)), some (76, true)⟩ ::⟨(some 79), .pick (.t 76) (.t 78) (.c (.bool false)), none⟩ ::⟨(some 80), .mv (.t 79), none⟩ ::⟨(some 81), .ld 2 true (.t 12), some (80, true)⟩ ::⟨(some 82), .ld 2 true (.t 9), some (80, true)⟩ ::⟨(some 83), .call (.c (.fn 22 [])) [(.t 81), (.t 82)], some (80, true)⟩ ::⟨(some 84), .pick (.t 80) (.t 83) (.c (.bool false)), none⟩ ::⟨(some 85), .mv (.t 84), none⟩ ::⟨(some 86), .ld 2 true (.t 16), some (85, true)⟩ ::⟨(some 87), .ld 2 true (.t 7), some (85, true)⟩ ::⟨(some 88), .call (.c (.fn 22 [])) [(.t 86), (.t 87)], some (85, true)⟩ ::⟨(some 89), .pick (.t 85) (.t 88) (.c (.bool false)), none⟩ ::⟨(some 6), .mv (.t 89), none⟩ :: [])) .ret))))))))))
theorem cd_fretworklaw12_FoldBack : Code1 Try.prog 13 90 ir_fretworklaw12_FoldBack [.t 6] := ⟨Try.call13, _, _, Try.func13, rfl, by kernel_rfl, by kernel_rfl, by kernel_rfl, by kernel_rfl⟩

set_option maxHeartbeats 16000000 in
theorem fs_FoldBack (n : Int) (p q : List (Int × Int)) (f : List Nat) (hn : 0 ≤ n ∧ n ≤ 255) (hp : Ib p) (hq : Ib q) (hw : Wd f) : FS Try.prog 13 [.int .u8 n, .agg [IL p, IL q], U f] (.bool true) := by
  refine fs_of_cvc mixed cd_fretworklaw12_FoldBack (by simp) ?_
  have hfl := U_len f
  by_cases h4 : 4 < f.length
  · repeat' (conv => whnf); first
      | ((refine Or.inl ⟨by rfl, _, fs_live12, ?_⟩))
      | ((refine Br.beq (by rfl) ?_))
      | ((refine Br.bne (by rfl) ?_))
      | (refine Br.tt ?_)
      | (refine Br.ff ?_)
      | (refine Br.dec (fun h => ?_) (fun h => ?_)) <;> try (exfalso; omega)
      | (refine Br.neg ?_)
      | (refine Br.mk (fun h => ?_) (fun h => ?_))
      | (refine And.intro rfl ?_)
      | (refine And.intro (by omega) ?_)
      | (refine ⟨_, Or.inl ⟨⟨by omega, by omega⟩, rfl⟩, ?_⟩)
      | (refine And.intro (by simp only [lens_all, its_len, zs_len]; first | done | omega) ?_)
      | (refine And.intro (Nat.le_refl _) ?_)
      | fail
    all_goals exact rfl
  have ct1 := fs_Some n p hn hp
  obtain ⟨a, ea, ha, ia, la⟩ := sm_ok hn hp
  have hK := tmod_bd hn.1 (show (0 : Int) < 60 by omega)
  rw [ea] at ct1
  generalize n.tmod 60 = K at *
  have c1 := fs_rPart f hw (by omega) 0 K (by omega) (by omega) (by omega) (by omega)
  rw [show max (0 : Int) 0 = 0 from rfl] at c1
  obtain ⟨hu, hul⟩ := unl_plc (f := f) hK.1
  have c2 : FS Try.prog 51 [if K ≤ 0 then .nils else U (partN f 0 K)] (Z (plc f K)) := by
    unfold plc
    by_cases h : K ≤ 0
    · rw [if_pos h, if_pos h, ← I_Z]
      exact fs_le (fs_rList [] (by intro x hx; cases hx) (by simp)) ⟨rfl, trivial⟩
    · rw [if_neg h, if_neg h, ← I_Z]
      refine fs_rList _ (puts_wd _ _ _ (wd_zero _)) ?_
      unfold partN
      rw [puts_len, List.length_replicate]
      unfold wordsI; omega
  have hpu : (if K ≤ 0 then SV.nils else U (partN f 0 K)) = .nils ∨ ∃ ws, (if K ≤ 0 then SV.nils else U (partN f 0 K)) = U ws := by
    split
    · exact .inl rfl
    · exact .inr ⟨_, rfl⟩
  generalize plc f K = at' at *
  have hzl := zs_len at'
  have hat : 0 ≤ (at'.length : Int) ∧ (at'.length : Int) ≤ 255 := by omega
  have ct2 := fs_Some (at'.length : Int) q hat hq
  obtain ⟨x, ex, hx, ix, lx⟩ := sm_ok hat hq
  rw [ex, show (at'.length : Int).tmod 60 = (at'.length : Int) by rw [Int.tmod_eq_emod_of_nonneg (by omega)]; omega] at ct2
  rw [show (at'.length : Int).tmod 60 = (at'.length : Int) by rw [Int.tmod_eq_emod_of_nonneg (by omega)]; omega] at hx
  have any0 := unl_any hu
  have as1 : ∀ y, OkV (at'.length : Int) y → asR K a at' (at'.length : Int) y = (K, asK K a y at' at'.length, 0) := fun y hy => by
    unfold asR
    rw [hy.sn, if_neg (by simp), ha.sn, any0, if_neg (by simp), ha.sl, hy.sl]
  have sl1 : ∀ y, OkV K y → selR K y at' = ((at'.length : Int), selK y at' at'.length, 0) := fun y hy => by
    unfold selR
    rw [if_neg (by omega), hy.sn, any0, if_neg (by simp), hy.sl]
  have c3 := fs_Assign K a at' (at'.length : Int) x (by omega) (by omega)
  rw [as1 x hx] at c3
  have hak := okV_asK ha x at' at'.length
  have c4 := fs_Select K (asK K a x at' at'.length) at' (by have := hak.le; omega)
  rw [sl1 _ hak, sel_as ha hu (by omega) hx] at c4
  have c5 := fs_Select K a at' (by omega)
  rw [sl1 _ ha] at c5
  have hsk := okV_selK (a := a) (at' := at') (by omega)
  have c6 := fs_Assign K a at' (at'.length : Int) (selK a at' at'.length) (by omega) (by have := hsk.le; omega)
  rw [as1 _ hsk, as_sel ha hu] at c6
  have c7 := fs_same9 (at'.length : Int) x (by omega)
  have c8 := fs_same9 K a (by omega)
  have ct2' : FS Try.prog 31 [.int .u8 ((zs at').length : Int), IL q] (VC (at'.length : Int) x) := by rw [hzl]; exact ct2
  generalize asK K a x at' at'.length = ak at *
  generalize selK a at' at'.length = sk at *
  generalize (if K ≤ 0 then SV.nils else U (partN f 0 K)) = pt at *
  rcases hpu with rfl | ⟨ws, rfl⟩
  all_goals
    repeat' (conv => whnf); first
      | ((refine Or.inl ⟨by rfl, _, ct1, ?_⟩))
      | ((refine Or.inl ⟨by rfl, _, ct2', ?_⟩))
      | ((refine Or.inl ⟨by rfl, _, c1, ?_⟩))
      | ((refine Or.inl ⟨by rfl, _, c2, ?_⟩))
      | ((refine Or.inl ⟨by rfl, _, c3, ?_⟩))
      | ((refine Or.inl ⟨by rfl, _, c4, ?_⟩))
      | ((refine Or.inl ⟨by rfl, _, c5, ?_⟩))
      | ((refine Or.inl ⟨by rfl, _, c6, ?_⟩))
      | ((refine Or.inl ⟨by rfl, _, c7, ?_⟩))
      | ((refine Or.inl ⟨by rfl, _, c8, ?_⟩))
      | ((refine Or.inl ⟨by rfl, _, fs_live12, ?_⟩))
      | ((refine Br.beq (by rfl) ?_))
      | ((refine Br.bne (by rfl) ?_))
      | (refine Br.tt ?_)
      | (refine Br.ff ?_)
      | (refine Br.dec (fun h => ?_) (fun h => ?_)) <;> try (exfalso; omega)
      | (refine Br.neg ?_)
      | (refine Br.mk (fun h => ?_) (fun h => ?_))
      | (refine And.intro rfl ?_)
      | (refine And.intro (by omega) ?_)
      | (refine ⟨_, Or.inl ⟨⟨by omega, by omega⟩, rfl⟩, ?_⟩)
      | (refine And.intro (by simp only [lens_all]; first | done | omega) ?_)
      | (refine And.intro (Nat.le_refl _) ?_)
      | fail
    all_goals exact rfl
end
end Go.Proofs.Ytckbagpdahhiiaa
