/- Sparse vectors: at places of a set; without a place. Two sparse vectors: the places of both. What comes of two sparse vectors, place by place. -/
import Derived.Test.YtckbagpdahhiiaaV1
import Derived.Test.YtckbagpdahhiiaaF2
namespace Go.Proofs.Ytckbagpdahhiiaa
section
open Go.RowKit
attribute [local irreducible] FS FO IT HS

theorem its_loose (l : List (Int × Int)) : Blk.loose (.arr 2 (its l)) := by
  intro x hx
  obtain ⟨v, _, rfl⟩ := List.mem_map.1 hx
  rfl
theorem frz_rest {p : Int × Int → Bool} {l : List (Int × Int)} {z : List (Int × Int)} : SV.slc 2 (((its (rest p l ++ z)).drop 0).take (rest p l).length) = IL (rest p l) := by
  rw [List.drop_zero, its_take, List.take_left]; rfl
theorem Ib.sl {n : Int} {l : List (Int × Int)} (h : Ib l) : Ib (sl n l) := by
  unfold Go.Proofs.Ytckbagpdahhiiaa.sl; split
  · exact h
  · intro x hx; simp at hx
theorem Ib.rest {p : Int × Int → Bool} {l : List (Int × Int)} (h : Ib l) : Ib (rest p l) := fun x hx => h x (List.mem_filter.1 hx).1

def ir_blend_sure : IR :=
(.seq
 (.reg (⟨(some 1), .bx (.t 0), none⟩ ::
   ⟨(some 2), .al [.int .i64 0, .nils], none⟩ ::
   []))
 (.seq
  (.seq
   (.reg (⟨(some 3), .ld 2 true (.t 1), none⟩ ::
     ⟨(some 4), .call (.c (.fn 103 [])) [(.t 3)], none⟩ ::
     []))
   (.cond (.t 4)
    (.seq
     (.reg (⟨(some 5), .ld 2 true (.t 1), none⟩ ::
       ⟨none, .st 2 (.t 2) (.t 5), none⟩ ::
       []))
     .ret)
    .skip))
  (.seq
   (.reg (⟨(some 6), .bld [.int .i64 0, .nils] [], none⟩ ::
     ⟨none, .st 2 (.t 2) (.t 6), none⟩ ::
     []))
   .ret)))
theorem cd_blend_sure : Code1 Try.prog 71 7 ir_blend_sure [.c 2 true 2] := ⟨Try.call71, _, _, Try.func71, rfl, by kernel_rfl, by kernel_rfl, by kernel_rfl, by kernel_rfl⟩

theorem fs_bsure (n : Int) (l : List (Int × Int)) (hl : l.length ≤ 1000000000) : FS Try.prog 71 [VC n l] (VC (sn n l) (sl n l)) := by
  refine fs_of_cvc mixed cd_blend_sure (by simp) ?_
  obtain ⟨b, hb⟩ : ∃ b, isV n l = b := ⟨_, rfl⟩
  have c := fs_vRight n l hl
  rw [hb] at c
  unfold sn sl
  rw [hb]
  repeat' (conv => whnf); first
    | ((refine Or.inl ⟨by rfl, _, c, ?_⟩))
    | ((refine fun x hx => ?_); (obtain ⟨y, hy, rfl⟩ := its_get hx; clear hx))
    | ((refine Br.beq (by rfl) ?_))
    | ((refine Br.bne (by rfl) ?_))
    | (refine Br.tt ?_)
    | (refine Br.ff ?_)
    | (refine Br.dec (fun h => ?_) (fun h => ?_)) <;> try (exfalso; omega)
    | (refine Br.neg ?_)
    | (refine Br.mk (fun h => ?_) (fun h => ?_))
    | (refine And.intro rfl ?_)
    | (refine And.intro (by omega) ?_)
    | (refine ⟨_, Or.inl ⟨⟨by omega, by omega⟩, rfl⟩, ?_⟩)
    | (refine And.intro (by simp only [lens_all]; first | done | omega) ?_)
    | (refine And.intro (Nat.le_refl _) ?_)
    | fail
  · subst h; exact rfl
  · subst h; exact ⟨rfl, rfl, trivial⟩

def ir_blend_Mask_1 : IR :=
(.seq
 (.reg (⟨(some 3), .bx (.t 0), none⟩ ::
   ⟨(some 4), .mv (.c (.bool false)), none⟩ ::
   []))
 (.seq
  (.draw (⟨(some 5), .ld 1 false (.t 1), none⟩ ::
    ⟨(some 6), .fa 0 (.t 3), none⟩ ::
    ⟨(some 7), .ld 1 false (.t 6), none⟩ ::
    ⟨(some 8), .call (.c (.fn 75 [])) [(.t 5), (.t 7)], none⟩ ::
    ⟨(some 9), .ld 1 false (.t 2), none⟩ ::
    [])
   (⟨(some 10), .beq false (.t 8) (.t 9), none⟩ ::
    ⟨(some 4), .mv (.t 10), none⟩ ::
    []))
  .ret))
theorem cd_blend_Mask_1 : Code1 Try.prog 74 11 ir_blend_Mask_1 [.t 4] := ⟨Try.call74, _, _, Try.func74, rfl, by kernel_rfl, by kernel_rfl, by kernel_rfl, by kernel_rfl⟩

theorem fs_Mask1 (f : List Nat) (hw : Wd f) (o : Bool) (a b : Int) (ha : I64 a) : FS Try.prog 74 [.agg [.int .i64 a, .int .i64 b], .box [U f] 0, .box [.bool o] 0] (.bool (hasI f a == o)) := by
  refine fs_of_cvc mixed cd_blend_Mask_1 (by simp) ?_
  repeat' (conv => whnf); first
    | ((refine Or.inl ⟨by rfl, _, fs_Has f hw a ha.2, ?_⟩))
    | ((refine fun x hx => ?_); (obtain ⟨y, hy, rfl⟩ := its_get hx; clear hx))
    | ((refine Br.beq (by rfl) ?_))
    | ((refine Br.bne (by rfl) ?_))
    | (refine Br.tt ?_)
    | (refine Br.ff ?_)
    | (refine Br.dec (fun h => ?_) (fun h => ?_)) <;> try (exfalso; omega)
    | (refine Br.neg ?_)
    | (refine Br.mk (fun h => ?_) (fun h => ?_))
    | (refine And.intro rfl ?_)
    | (refine And.intro (by omega) ?_)
    | (refine ⟨_, Or.inl ⟨⟨by omega, by omega⟩, rfl⟩, ?_⟩)
    | (refine And.intro (by simp only [lens_all, its_len]; first | done | omega) ?_)
    | (refine And.intro (Nat.le_refl _) ?_)
    | fail
  all_goals exact rfl

def ir_blend_Mask : IR :=
(.seq
 (.reg (⟨(some 3), .bx (.t 0), none⟩ ::
   ⟨(some 4), .bx (.t 1), none⟩ ::
   ⟨(some 5), .bx (.t 2), none⟩ ::
   ⟨(some 6), .al [.int .i64 0, .nils], none⟩ ::
   []))
 (.seq
  (.reg (⟨(some 7), .ld 2 true (.t 3), none⟩ ::
    ⟨(some 8), .call (.c (.fn 71 [])) [(.t 7)], none⟩ ::
    ⟨none, .st 2 (.t 3) (.t 8), none⟩ ::
    []))
  (.seq
   (.draw (⟨(some 9), .fa 0 (.t 3), none⟩ ::
     ⟨(some 10), .ld 1 false (.t 9), none⟩ ::
     ⟨(some 11), .fa 1 (.t 3), none⟩ ::
     ⟨(some 12), .ld 1 false (.t 11), none⟩ ::
     ⟨(some 13), .call (.c (.fn 73 [])) [(.t 12)], none⟩ ::
     ⟨(some 14), .fn 74 [(.t 4), (.t 5)], none⟩ ::
     ⟨(some 15), .call (.c (.fn 72 [])) [(.t 13), (.t 14)], none⟩ ::
     [])
    (⟨(some 16), .bld [.int .i64 0, .nils] [(0, 1, (.t 10)), (1, 1, (.t 15))], none⟩ ::
     ⟨none, .st 2 (.t 6) (.t 16), none⟩ ::
     []))
   .ret)))
theorem cd_blend_Mask : Code1 Try.prog 27 17 ir_blend_Mask [.c 2 true 6] := ⟨Try.call27, _, _, Try.func27, rfl, by kernel_rfl, by kernel_rfl, by kernel_rfl, by kernel_rfl⟩

theorem fs_bMask (n : Int) (l : List (Int × Int)) (f : List Nat) (o : Bool) (hl : l.length ≤ 1000000000) (hb : Ib l) (hw : Wd f) : FS Try.prog 27 [VC n l, U f, .bool o] (VC (sn n l) (rest (fun x => hasI f x.1 == o) (sl n l))) := by
  refine fs_of_cvc mixed cd_blend_Mask (by simp) ?_
  have hl2 := sl_len n l
  have c := hs_Delete 74 [.box [U f] 0, .box [.bool o] 0] (fun x => hasI f x.1 == o) (sl n l) (by omega) (fun _ _ => rfl) fun x hx => fs_Mask1 f hw o x.1 x.2 (hb.sl x hx).1
  repeat' (conv => whnf); first
    | ((refine Or.inl ⟨by rfl, _, fs_bsure n l hl, ?_⟩))
    | ((refine Or.inr (Or.inr (Or.inr (Or.inl ?_))); (conv => whnf); refine ⟨rfl, rfl, ?_⟩; (conv => whnf); refine ⟨_, _, _, _, c, rfl, its_loose _, ?_⟩))
    | ((refine Or.inr (Or.inr (Or.inr (Or.inr (Or.inr ?_)))); (conv => whnf); refine ⟨_, _, _, fo_vClone (sl n l) (by omega), rfl, its_loose _, ?_⟩))
    | ((refine fun x hx => ?_); (obtain ⟨y, hy, rfl⟩ := its_get hx; clear hx))
    | ((refine Br.beq (by rfl) ?_))
    | ((refine Br.bne (by rfl) ?_))
    | (refine Br.tt ?_)
    | (refine Br.ff ?_)
    | (refine Br.dec (fun h => ?_) (fun h => ?_)) <;> try (exfalso; omega)
    | (refine Br.neg ?_)
    | (refine Br.mk (fun h => ?_) (fun h => ?_))
    | (refine And.intro rfl ?_)
    | (refine And.intro (by omega) ?_)
    | (refine ⟨_, Or.inl ⟨⟨by omega, by omega⟩, rfl⟩, ?_⟩)
    | (refine And.intro (by simp only [lens_all, its_len]; first | done | omega) ?_)
    | (refine And.intro (Nat.le_refl _) ?_)
    | fail
  conv => whnf
  rw [frz_rest]
  rfl
end
section
open Go.RowKit
attribute [local irreducible] FS FO IT HS

/-- What two vectors have at a place: two values, and whether there are any. -/
structure Pr where
  x : Int
  y : Int
  ok : Bool
  is : Bool
def prS (p : Pr) : SV := .agg [.int .i64 p.x, .int .i64 p.y, .bool p.ok, .bool p.is]
def prs (l : List (Int × Pr)) : List (List SV) := l.map fun p => [.int .i64 p.1, prS p.2]

/-- The places of one or the other, rising. -/
def mgF : Nat → List (Int × Int) → List (Int × Int) → List (Int × Pr)
  | 0, _, _ => []
  | _ + 1, [], [] => []
  | n + 1, x :: xs, [] => (x.1, ⟨x.2, 0, true, false⟩) :: mgF n xs []
  | n + 1, [], y :: ys => (y.1, ⟨0, y.2, false, true⟩) :: mgF n [] ys
  | n + 1, x :: xs, y :: ys =>
    if x.1 < y.1 then (x.1, ⟨x.2, 0, true, false⟩) :: mgF n xs (y :: ys)
    else if y.1 < x.1 then (y.1, ⟨0, y.2, false, true⟩) :: mgF n (x :: xs) ys
    else (x.1, ⟨x.2, y.2, true, true⟩) :: mgF n xs ys
def mg (a b : List (Int × Int)) : List (Int × Pr) := mgF (a.length + b.length) a b
theorem mgF_enough : ∀ (n m : Nat) (a b : List (Int × Int)), a.length + b.length ≤ n → a.length + b.length ≤ m → mgF n a b = mgF m a b
  | 0, 0, _, _, _, _ => rfl
  | 0, m + 1, a, b, h, _ => by
    have ha : a = [] := List.length_eq_zero_iff.1 (by omega)
    have hb : b = [] := List.length_eq_zero_iff.1 (by omega)
    subst ha hb; rfl
  | n + 1, 0, a, b, _, h => by
    have ha : a = [] := List.length_eq_zero_iff.1 (by omega)
    have hb : b = [] := List.length_eq_zero_iff.1 (by omega)
    subst ha hb; rfl
  | n + 1, m + 1, [], [], _, _ => rfl
  | n + 1, m + 1, x :: xs, [], h1, h2 => by simp only [mgF]; rw [mgF_enough n m xs [] (by simpa using h1) (by simpa using h2)]
  | n + 1, m + 1, [], y :: ys, h1, h2 => by simp only [mgF]; rw [mgF_enough n m [] ys (by simpa using h1) (by simpa using h2)]
  | n + 1, m + 1, x :: xs, y :: ys, h1, h2 => by
    simp only [List.length_cons] at h1 h2
    simp only [mgF]
    rw [mgF_enough n m xs (y :: ys) (by simp only [List.length_cons]; omega) (by simp only [List.length_cons]; omega), mgF_enough n m (x :: xs) ys (by simp only [List.length_cons]; omega) (by simp only [List.length_cons]; omega), mgF_enough n m xs ys (by omega) (by omega)]
theorem mg_nil : mg [] [] = [] := rfl
theorem mg_a (x : Int × Int) (xs : List (Int × Int)) : mg (x :: xs) [] = (x.1, ⟨x.2, 0, true, false⟩) :: mg xs [] := rfl
theorem mg_b (y : Int × Int) (ys : List (Int × Int)) : mg [] (y :: ys) = (y.1, ⟨0, y.2, false, true⟩) :: mg [] ys := by
  unfold mg
  simp only [List.length_cons, List.length_nil, Nat.zero_add, mgF]
theorem mg_lt {x y : Int × Int} (h : x.1 < y.1) (xs ys : List (Int × Int)) : mg (x :: xs) (y :: ys) = (x.1, ⟨x.2, 0, true, false⟩) :: mg xs (y :: ys) := by
  unfold mg
  rw [show (x :: xs).length + (y :: ys).length = (xs.length + (y :: ys).length) + 1 by simp; omega]
  simp only [mgF]; rw [if_pos h]
theorem mg_gt {x y : Int × Int} (h : y.1 < x.1) (xs ys : List (Int × Int)) : mg (x :: xs) (y :: ys) = (y.1, ⟨0, y.2, false, true⟩) :: mg (x :: xs) ys := by
  unfold mg
  rw [show (x :: xs).length + (y :: ys).length = ((x :: xs).length + ys.length) + 1 by simp; omega]
  simp only [mgF]; rw [if_neg (by omega), if_pos h]
theorem mg_eq {x y : Int × Int} (h : x.1 = y.1) (xs ys : List (Int × Int)) : mg (x :: xs) (y :: ys) = (x.1, ⟨x.2, y.2, true, true⟩) :: mg xs ys := by
  unfold mg
  rw [show (x :: xs).length + (y :: ys).length = (xs.length + ys.length + 1) + 1 by simp; omega]
  simp only [mgF]; rw [if_neg (by omega), if_neg (by omega), mgF_enough _ (xs.length + ys.length) xs ys (by omega) (by omega)]

theorem its_c0 {x : Int × Int} {xs : List (Int × Int)} {z : List SV} (h : (its (x :: xs))[Int.toNat 0]? = some z) : z = [.int .i64 x.1, .int .i64 x.2] := by
  simpa [its] using h.symm
theorem its_tl (x : Int × Int) (xs : List (Int × Int)) : SV.slc 2 (((its (x :: xs)).take (((its (x :: xs)).length : Int)).toNat).drop (Int.toNat 1)) = IL xs := by
  have : (((its (x :: xs)).length : Int)).toNat = (its (x :: xs)).length := by omega
  rw [this, List.take_length]; rfl
theorem prs_get {l : List (Int × Pr)} {i : Nat} {p : Int × Pr} {t : List (Int × Pr)} (h : l.drop i = p :: t) : (prs l)[i]? = some [.int .i64 p.1, prS p.2] := by
  have : (l.drop i)[0]? = l[i]? := by simp
  rw [h] at this
  simp only [prs, List.getElem?_map, ← this]
  rfl

/-- Places that can be. -/
def Lo (l : List (Int × Int)) : Prop := ∀ x ∈ l, x.1 < 4096
theorem drop_cons {α : Type} {l : List α} {i : Nat} {p : α} {t : List α} (h : l.drop i = p :: t) : l.drop (i + 1) = t ∧ i + 1 ≤ l.length := by
  refine ⟨by rw [← List.drop_drop, h]; rfl, ?_⟩
  have := congrArg List.length h
  simp at this; omega

def ir_blend_pairs_1 : IR :=
(.block 0
 (.loop
  (.seq
   (.seq
    (.reg (⟨(some 6), .ld 1 false (.t 1), none⟩ ::
      ⟨(some 7), .ln (.t 6), none⟩ ::
      ⟨(some 8), .bin .gtr (.t 7) (.c (.int .i64 0)), none⟩ ::
      ⟨(some 9), .mv (.t 8), none⟩ ::
      ⟨(some 10), .ld 1 false (.t 2), some (9, false)⟩ ::
      ⟨(some 11), .ln (.t 10), some (9, false)⟩ ::
      ⟨(some 12), .bin .gtr (.t 11) (.c (.int .i64 0)), some (9, false)⟩ ::
      ⟨(some 13), .pick (.t 9) (.c (.bool true)) (.t 12), none⟩ ::
      []))
    (.cond (.t 13)
     .skip
     (.exit 0)))
   (.block 1
    (.seq
     (.reg (⟨(some 4), .al [.int .i64 0, .int .i64 0, .bool false, .bool false], none⟩ ::
       []))
     (.seq
      (.reg (⟨(some 5), .mv (.c (.int .i64 4096)), none⟩ ::
        []))
      (.seq
       (.seq
        (.reg (⟨(some 14), .ld 1 false (.t 1), none⟩ ::
          ⟨(some 15), .ln (.t 14), none⟩ ::
          ⟨(some 16), .bin .gtr (.t 15) (.c (.int .i64 0)), none⟩ ::
          []))
        (.cond (.t 16)
         (.reg (⟨(some 17), .ld 1 false (.t 1), none⟩ ::
           ⟨(some 18), .ia 2 (.t 17) (.c (.int .i64 0)), none⟩ ::
           ⟨(some 19), .fa 0 (.t 18), none⟩ ::
           ⟨(some 20), .ld 1 false (.t 19), none⟩ ::
           ⟨(some 5), .mv (.t 20), none⟩ ::
           []))
         .skip))
       (.seq
        (.seq
         (.reg (⟨(some 21), .ld 1 false (.t 2), none⟩ ::
           ⟨(some 22), .ln (.t 21), none⟩ ::
           ⟨(some 23), .bin .gtr (.t 22) (.c (.int .i64 0)), none⟩ ::
           []))
         (.cond (.t 23)
          (.reg (⟨(some 24), .mv (.t 5), none⟩ ::
            ⟨(some 25), .ld 1 false (.t 2), none⟩ ::
            ⟨(some 26), .ia 2 (.t 25) (.c (.int .i64 0)), none⟩ ::
            ⟨(some 27), .fa 0 (.t 26), none⟩ ::
            ⟨(some 28), .ld 1 false (.t 27), none⟩ ::
            ⟨(some 29), .mm false [(.t 24), (.t 28)], none⟩ ::
            ⟨(some 5), .mv (.t 29), none⟩ ::
            []))
          .skip))
        (.seq
         (.seq
          (.reg (⟨(some 30), .ld 1 false (.t 1), none⟩ ::
            ⟨(some 31), .ln (.t 30), none⟩ ::
            ⟨(some 32), .bin .gtr (.t 31) (.c (.int .i64 0)), none⟩ ::
            ⟨(some 33), .mv (.t 32), none⟩ ::
            ⟨(some 34), .ld 1 false (.t 1), some (33, true)⟩ ::
            ⟨(some 35), .ia 2 (.t 34) (.c (.int .i64 0)), some (33, true)⟩ ::
            ⟨(some 36), .fa 0 (.t 35), some (33, true)⟩ ::
            ⟨(some 37), .ld 1 false (.t 36), some (33, true)⟩ ::
            ⟨(some 38), .mv (.t 5), some (33, true)⟩ ::
            ⟨(some 39), .bin .eql (.t 37) (.t 38), some (33, true)⟩ ::
            ⟨(some 40), .pick (.t 33) (.t 39) (.c (.bool false)), none⟩ ::
            []))
          (.cond (.t 40)
           (.drawL (⟨(some 41), .ld 1 false (.t 1), none⟩ ::
             ⟨(some 42), .ia 2 (.t 41) (.c (.int .i64 0)), none⟩ ::
             ⟨(some 43), .fa 1 (.t 42), none⟩ ::
             ⟨(some 44), .ld 1 false (.t 43), none⟩ ::
             ⟨(some 45), .ld 1 false (.t 1), none⟩ ::
             ⟨(some 46), .sl 2 (.t 45) (some (.c (.int .i64 1))) none none, none⟩ ::
             [])
            (⟨(some 45), .ld 1 false (.t 1), none⟩ ::
             ⟨(some 46), .sl 2 (.t 45) (some (.c (.int .i64 1))) none none, none⟩ ::
             [])
            (⟨(some 47), .fa 0 (.t 4), none⟩ ::
             ⟨none, .st 1 (.t 47) (.t 44), none⟩ ::
             ⟨(some 48), .fa 2 (.t 4), none⟩ ::
             ⟨none, .st 1 (.t 48) (.c (.bool true)), none⟩ ::
             [])
            (⟨none, .st 1 (.t 1) (.t 46), none⟩ ::
             []))
           .skip))
         (.seq
          (.seq
           (.reg (⟨(some 49), .ld 1 false (.t 2), none⟩ ::
             ⟨(some 50), .ln (.t 49), none⟩ ::
             ⟨(some 51), .bin .gtr (.t 50) (.c (.int .i64 0)), none⟩ ::
             ⟨(some 52), .mv (.t 51), none⟩ ::
             ⟨(some 53), .ld 1 false (.t 2), some (52, true)⟩ ::
             ⟨(some 54), .ia 2 (.t 53) (.c (.int .i64 0)), some (52, true)⟩ ::
             ⟨(some 55), .fa 0 (.t 54), some (52, true)⟩ ::
             ⟨(some 56), .ld 1 false (.t 55), some (52, true)⟩ ::
             ⟨(some 57), .mv (.t 5), some (52, true)⟩ ::
             ⟨(some 58), .bin .eql (.t 56) (.t 57), some (52, true)⟩ ::
             ⟨(some 59), .pick (.t 52) (.t 58) (.c (.bool false)), none⟩ ::
             []))
           (.cond (.t 59)
            (.drawL (⟨(some 60), .ld 1 false (.t 2), none⟩ ::
              ⟨(some 61), .ia 2 (.t 60) (.c (.int .i64 0)), none⟩ ::
              ⟨(some 62), .fa 1 (.t 61), none⟩ ::
              ⟨(some 63), .ld 1 false (.t 62), none⟩ ::
              ⟨(some 64), .ld 1 false (.t 2), none⟩ ::
              ⟨(some 65), .sl 2 (.t 64) (some (.c (.int .i64 1))) none none, none⟩ ::
              [])
             (⟨(some 64), .ld 1 false (.t 2), none⟩ ::
              ⟨(some 65), .sl 2 (.t 64) (some (.c (.int .i64 1))) none none, none⟩ ::
              [])
             (⟨(some 66), .fa 1 (.t 4), none⟩ ::
              ⟨none, .st 1 (.t 66) (.t 63), none⟩ ::
              ⟨(some 67), .fa 3 (.t 4), none⟩ ::
              ⟨none, .st 1 (.t 67) (.c (.bool true)), none⟩ ::
              [])
             (⟨none, .st 1 (.t 2) (.t 65), none⟩ ::
              []))
            .skip))
          (.seq
           (.reg (⟨(some 68), .mv (.t 0), none⟩ ::
             ⟨(some 69), .mv (.t 5), none⟩ ::
             ⟨(some 70), .ld 4 true (.t 4), none⟩ ::
             ⟨(some 71), .call (.t 68) [(.t 69), (.t 70)], none⟩ ::
             ⟨(some 72), .un .not (.t 71), none⟩ ::
             []))
           (.cond (.t 72)
            .ret
            .skip))))))))))))
theorem cd_blend_pairs_1 : Code1 Try.prog 120 73 ir_blend_pairs_1 [] := ⟨Try.call120, _, _, Try.func120, rfl, by kernel_rfl, by kernel_rfl, by kernel_rfl, by kernel_rfl⟩

set_option maxHeartbeats 4000000 in
theorem it_pairs (a b : List (Int × Int)) (hla : a.length ≤ 1000000000) (hlb : b.length ≤ 1000000000) (ha : Lo a) (hb : Lo b) : IT Try.prog 120 [.ptr 0 0 0 0, .ptr 1 0 0 0] [.vars [IL a], .vars [IL b]] (prs (mg a b)) := by
  refine it_of_cvc mixed cd_blend_pairs_1 (ks := []) (by simp) fun l => ?_
  have hpl : (prs (mg a b)).length = (mg a b).length := by simp [prs]
  refine ⟨List (Int × Int) × List (Int × Int) × Nat, fun ⟨p, q, i⟩ => (mg a b).drop i = mg p q ∧ i ≤ (mg a b).length ∧ Lo p ∧ Lo q ∧ p.length ≤ 1000000000 ∧ q.length ≤ 1000000000, fun _ => [(0, .raw (.func (.yield l) #[] #[])), (1, .ptr 0 0 0 0), (2, .ptr 1 0 0 0)], fun ⟨p, q, i⟩ => [.vars [IL p], .vars [IL q]], fun ⟨p, q, i⟩ => some i, fun ⟨p, q, i⟩ => p.length + q.length,
    ⟨(a, b, 0), ⟨rfl, by omega, ha, hb, hla, hlb⟩, ⟨rfl, rfl, rfl, trivial⟩, ⟨⟨rfl, trivial⟩, ⟨rfl, trivial⟩, trivial⟩, rfl⟩, fun ⟨p, q, i⟩ hk => ?_⟩
  obtain ⟨hd, hi, hp, hq, hpl', hql'⟩ := hk
  match p, q with
  | [], [] =>
    repeat' (conv => whnf); first
      | ((refine Br.beq (by rfl) ?_))
      | ((refine Br.bne (by rfl) ?_))
      | (refine Br.tt ?_)
      | (refine Br.ff ?_)
      | (refine Br.dec (fun h => ?_) (fun h => ?_)) <;> try (exfalso; omega)
      | (refine Br.neg ?_)
      | (refine Br.mk (fun h => ?_) (fun h => ?_))
      | (refine And.intro rfl ?_)
      | (refine And.intro (by omega) ?_)
      | (refine ⟨_, Or.inl ⟨⟨by omega, by omega⟩, rfl⟩, ?_⟩)
      | (refine And.intro (by simp only [lens_all, its_len]; first | done | omega) ?_)
      | (refine And.intro (Nat.le_refl _) ?_)
      | fail
    refine Or.inl ?_
    rw [mg_nil] at hd
    have := congrArg List.length hd
    simp at this
    show some i = some _
    congr 1
    omega
  | x :: xs, [] =>
    have e1 : (its (x :: xs)).length = xs.length + 1 := by simp [its]
    rw [mg_a] at hd
    obtain ⟨hd1, hd2⟩ := drop_cons hd
    have hget := prs_get hd
    have hx : x.1 < 4096 := hp x (by simp)
    repeat' (conv => whnf); first
      | ((refine fun z hz => ?_); (obtain rfl := its_c0 hz; clear hz))
      | ((refine ex_but 2 ?_; refine And.intro ?_ ?_; focus ((repeat' (first | exact trivial | exact rfl | (refine And.intro ?_ ?_) | omega | ((conv => whnf); first | exact trivial | exact rfl | (refine And.intro ?_ ?_)))); done)))
      | ((exact rfl))
      | ((exact trivial))
      | ((refine And.intro ?_ ?_; focus ((repeat' (first | exact trivial | exact rfl | (refine And.intro ?_ ?_) | omega | ((conv => whnf); first | exact trivial | exact rfl | (refine And.intro ?_ ?_)))); done)))
      | ((refine ⟨i, rfl, hget, ?_, ?_⟩))
      | ((refine ⟨rfl, rfl, rfl, i, rfl, hget, ?_, ?_⟩))
      | ((refine Br.beq (by rfl) ?_))
      | ((refine Br.bne (by rfl) ?_))
      | (refine Br.tt ?_)
      | (refine Br.ff ?_)
      | (refine Br.dec (fun h => ?_) (fun h => ?_)) <;> try (exfalso; omega)
      | (refine Br.neg ?_)
      | (refine Br.mk (fun h => ?_) (fun h => ?_))
      | (refine And.intro rfl ?_)
      | (refine And.intro (by omega) ?_)
      | (refine ⟨_, Or.inl ⟨⟨by omega, by omega⟩, rfl⟩, ?_⟩)
      | (refine And.intro (by simp only [lens_all]; first | done | omega) ?_)
      | (refine And.intro (Nat.le_refl _) ?_)
      | fail
    · refine ⟨(xs, [], i + 1), ⟨hd1, hd2, fun y hy => hp y (by simp [hy]), hq, by simp only [List.length_cons] at hpl'; omega, hql'⟩, (show xs.length + 0 < (x :: xs).length + 0 by simp), ⟨rfl, rfl, rfl, trivial⟩, ⟨⟨its_tl x xs, trivial⟩, ⟨rfl, trivial⟩, ⟨Nat.le_refl _, rfl, rfl⟩⟩, rfl⟩
    · exact Or.inr rfl
  | [], y :: ys =>
    have e1 : (its (y :: ys)).length = ys.length + 1 := by simp [its]
    rw [mg_b] at hd
    obtain ⟨hd1, hd2⟩ := drop_cons hd
    have hget := prs_get hd
    have hx : y.1 < 4096 := hq y (by simp)
    rw [show y.1 = min 4096 y.1 by omega] at hget
    repeat' (conv => whnf); first
      | ((refine fun z hz => ?_); (obtain rfl := its_c0 hz; clear hz))
      | ((refine ex_but 2 ?_; refine And.intro ?_ ?_; focus ((repeat' (first | exact trivial | exact rfl | (refine And.intro ?_ ?_) | omega | ((conv => whnf); first | exact trivial | exact rfl | (refine And.intro ?_ ?_)))); done)))
      | ((exact rfl))
      | ((exact trivial))
      | ((refine And.intro ?_ ?_; focus ((repeat' (first | exact trivial | exact rfl | (refine And.intro ?_ ?_) | omega | ((conv => whnf); first | exact trivial | exact rfl | (refine And.intro ?_ ?_)))); done)))
      | ((refine ⟨i, rfl, hget, ?_, ?_⟩))
      | ((refine ⟨rfl, rfl, rfl, i, rfl, hget, ?_, ?_⟩))
      | ((refine Br.beq (by rfl) ?_))
      | ((refine Br.bne (by rfl) ?_))
      | (refine Br.tt ?_)
      | (refine Br.ff ?_)
      | (refine Br.dec (fun h => ?_) (fun h => ?_)) <;> try (exfalso; omega)
      | (refine Br.neg ?_)
      | (refine Br.mk (fun h => ?_) (fun h => ?_))
      | (refine And.intro rfl ?_)
      | (refine And.intro (by omega) ?_)
      | (refine ⟨_, Or.inl ⟨⟨by omega, by omega⟩, rfl⟩, ?_⟩)
      | (refine And.intro (by simp only [lens_all]; first | done | omega) ?_)
      | (refine And.intro (Nat.le_refl _) ?_)
      | fail
    · refine ⟨([], ys, i + 1), ⟨hd1, hd2, hp, fun z hz => hq z (by simp [hz]), hpl', by simp only [List.length_cons] at hql'; omega⟩, (show 0 + ys.length < 0 + (y :: ys).length by simp), ⟨rfl, rfl, rfl, trivial⟩, ⟨⟨rfl, trivial⟩, ⟨its_tl y ys, trivial⟩, ⟨Nat.le_refl _, rfl, rfl⟩⟩, rfl⟩
    · exact Or.inr rfl
  | x :: xs, y :: ys =>
    have e1 : (its (x :: xs)).length = xs.length + 1 := by simp [its]
    have e2 : (its (y :: ys)).length = ys.length + 1 := by simp [its]
    have hx : x.1 < 4096 := hp x (by simp)
    have hy : y.1 < 4096 := hq y (by simp)
    rcases Int.lt_trichotomy x.1 y.1 with h | h | h
    · rw [mg_lt h] at hd
      obtain ⟨hd1, hd2⟩ := drop_cons hd
      have hget := prs_get hd
      rw [show x.1 = min x.1 y.1 by omega] at hget
      repeat' (conv => whnf); first
        | ((refine fun z hz => ?_); (obtain rfl := its_c0 hz; clear hz))
        | ((refine ex_but 2 ?_; refine And.intro ?_ ?_; focus ((repeat' (first | exact trivial | exact rfl | (refine And.intro ?_ ?_) | omega | ((conv => whnf); first | exact trivial | exact rfl | (refine And.intro ?_ ?_)))); done)))
        | ((exact rfl))
        | ((exact trivial))
        | ((refine And.intro ?_ ?_; focus ((repeat' (first | exact trivial | exact rfl | (refine And.intro ?_ ?_) | omega | ((conv => whnf); first | exact trivial | exact rfl | (refine And.intro ?_ ?_)))); done)))
        | ((refine ⟨i, rfl, hget, ?_, ?_⟩))
        | ((refine ⟨rfl, rfl, rfl, i, rfl, hget, ?_, ?_⟩))
        | ((refine Br.beq (by rfl) ?_))
        | ((refine Br.bne (by rfl) ?_))
        | (refine Br.tt ?_)
        | (refine Br.ff ?_)
        | (refine Br.dec (fun h => ?_) (fun h => ?_)) <;> try (exfalso; omega)
        | (refine Br.neg ?_)
        | (refine Br.mk (fun h => ?_) (fun h => ?_))
        | (refine And.intro rfl ?_)
        | (refine And.intro (by omega) ?_)
        | (refine ⟨_, Or.inl ⟨⟨by omega, by omega⟩, rfl⟩, ?_⟩)
        | (refine And.intro (by simp only [lens_all]; first | done | omega) ?_)
        | (refine And.intro (Nat.le_refl _) ?_)
        | fail
      · refine ⟨(xs, y :: ys, i + 1), ⟨hd1, hd2, fun y hy => hp y (by simp [hy]), hq, by simp only [List.length_cons] at hpl'; omega, hql'⟩, (show xs.length + (y :: ys).length < (x :: xs).length + (y :: ys).length by simp), ⟨rfl, rfl, rfl, trivial⟩, ⟨⟨its_tl x xs, trivial⟩, ⟨rfl, trivial⟩, ⟨Nat.le_refl _, rfl, rfl⟩⟩, rfl⟩
      · exact Or.inr rfl
    · rw [mg_eq h] at hd
      obtain ⟨hd1, hd2⟩ := drop_cons hd
      have hget := prs_get hd
      rw [show x.1 = min x.1 y.1 by omega] at hget
      repeat' (conv => whnf); first
        | ((refine fun z hz => ?_); (obtain rfl := its_c0 hz; clear hz))
        | ((refine ex_but 2 ?_; refine And.intro ?_ ?_; focus ((repeat' (first | exact trivial | exact rfl | (refine And.intro ?_ ?_) | omega | ((conv => whnf); first | exact trivial | exact rfl | (refine And.intro ?_ ?_)))); done)))
        | ((exact rfl))
        | ((exact trivial))
        | ((refine And.intro ?_ ?_; focus ((repeat' (first | exact trivial | exact rfl | (refine And.intro ?_ ?_) | omega | ((conv => whnf); first | exact trivial | exact rfl | (refine And.intro ?_ ?_)))); done)))
        | ((refine ⟨i, rfl, hget, ?_, ?_⟩))
        | ((refine ⟨rfl, rfl, rfl, i, rfl, hget, ?_, ?_⟩))
        | ((refine Br.beq (by rfl) ?_))
        | ((refine Br.bne (by rfl) ?_))
        | (refine Br.tt ?_)
        | (refine Br.ff ?_)
        | (refine Br.dec (fun h => ?_) (fun h => ?_)) <;> try (exfalso; omega)
        | (refine Br.neg ?_)
        | (refine Br.mk (fun h => ?_) (fun h => ?_))
        | (refine And.intro rfl ?_)
        | (refine And.intro (by omega) ?_)
        | (refine ⟨_, Or.inl ⟨⟨by omega, by omega⟩, rfl⟩, ?_⟩)
        | (refine And.intro (by simp only [lens_all]; first | done | omega) ?_)
        | (refine And.intro (Nat.le_refl _) ?_)
        | fail
      · refine ⟨(xs, ys, i + 1), ⟨hd1, hd2, fun y hy => hp y (by simp [hy]), fun z hz => hq z (by simp [hz]), by simp only [List.length_cons] at hpl'; omega, by simp only [List.length_cons] at hql'; omega⟩, (show xs.length + ys.length < (x :: xs).length + (y :: ys).length by simp; omega), ⟨rfl, rfl, rfl, trivial⟩, ⟨⟨its_tl x xs, trivial⟩, ⟨its_tl y ys, trivial⟩, ⟨Nat.le_refl _, rfl, rfl⟩⟩, rfl⟩
      · exact Or.inr rfl
    · rw [mg_gt h] at hd
      obtain ⟨hd1, hd2⟩ := drop_cons hd
      have hget := prs_get hd
      rw [show y.1 = min x.1 y.1 by omega] at hget
      repeat' (conv => whnf); first
        | ((refine fun z hz => ?_); (obtain rfl := its_c0 hz; clear hz))
        | ((refine ex_but 2 ?_; refine And.intro ?_ ?_; focus ((repeat' (first | exact trivial | exact rfl | (refine And.intro ?_ ?_) | omega | ((conv => whnf); first | exact trivial | exact rfl | (refine And.intro ?_ ?_)))); done)))
        | ((exact rfl))
        | ((exact trivial))
        | ((refine And.intro ?_ ?_; focus ((repeat' (first | exact trivial | exact rfl | (refine And.intro ?_ ?_) | omega | ((conv => whnf); first | exact trivial | exact rfl | (refine And.intro ?_ ?_)))); done)))
        | ((refine ⟨i, rfl, hget, ?_, ?_⟩))
        | ((refine ⟨rfl, rfl, rfl, i, rfl, hget, ?_, ?_⟩))
        | ((refine Br.beq (by rfl) ?_))
        | ((refine Br.bne (by rfl) ?_))
        | (refine Br.tt ?_)
        | (refine Br.ff ?_)
        | (refine Br.dec (fun h => ?_) (fun h => ?_)) <;> try (exfalso; omega)
        | (refine Br.neg ?_)
        | (refine Br.mk (fun h => ?_) (fun h => ?_))
        | (refine And.intro rfl ?_)
        | (refine And.intro (by omega) ?_)
        | (refine ⟨_, Or.inl ⟨⟨by omega, by omega⟩, rfl⟩, ?_⟩)
        | (refine And.intro (by simp only [lens_all]; first | done | omega) ?_)
        | (refine And.intro (Nat.le_refl _) ?_)
        | fail
      · refine ⟨(x :: xs, ys, i + 1), ⟨hd1, hd2, hp, fun z hz => hq z (by simp [hz]), hpl', by simp only [List.length_cons] at hql'; omega⟩, (show (x :: xs).length + ys.length < (x :: xs).length + (y :: ys).length by simp), ⟨rfl, rfl, rfl, trivial⟩, ⟨⟨rfl, trivial⟩, ⟨its_tl y ys, trivial⟩, ⟨Nat.le_refl _, rfl, rfl⟩⟩, rfl⟩
      · exact Or.inr rfl

def ir_blend_pairs : IR :=
(.seq
 (.reg (⟨(some 2), .bx (.t 0), none⟩ ::
   ⟨(some 3), .bx (.t 1), none⟩ ::
   ⟨(some 4), .mv (.c (.raw .nilFunc)), none⟩ ::
   []))
 (.seq
  (.reg (⟨(some 5), .fn 120 [(.t 2), (.t 3)], none⟩ ::
    ⟨(some 4), .mv (.t 5), none⟩ ::
    []))
  .ret))
theorem cd_blend_pairs : Code1 Try.prog 96 6 ir_blend_pairs [.t 4] := ⟨Try.call96, _, _, Try.func96, rfl, by kernel_rfl, by kernel_rfl, by kernel_rfl, by kernel_rfl⟩

theorem fo_pairs (a b : List (Int × Int)) : FO Try.prog 96 [IL a, IL b] (.fn 120 [.ptr 0 0 0 0, .ptr 1 0 0 0]) [.vars [IL a], .vars [IL b]] := by
  refine fo_of_cvc mixed cd_blend_pairs (by simp) ?_
  repeat' (conv => whnf); first
    | ((refine Br.beq (by rfl) ?_))
    | ((refine Br.bne (by rfl) ?_))
    | (refine Br.tt ?_)
    | (refine Br.ff ?_)
    | (refine Br.dec (fun h => ?_) (fun h => ?_)) <;> try (exfalso; omega)
    | (refine Br.neg ?_)
    | (refine Br.mk (fun h => ?_) (fun h => ?_))
    | (refine And.intro rfl ?_)
    | (refine And.intro (by omega) ?_)
    | (refine ⟨_, Or.inl ⟨⟨by omega, by omega⟩, rfl⟩, ?_⟩)
    | (refine And.intro (by simp only [lens_all, its_len]; first | done | omega) ?_)
    | (refine And.intro (Nat.le_refl _) ?_)
    | fail
  exact Or.inr (Or.inr (FoS.two 0 1 (by omega) (MatL.fn (.cons (.ptr 0 0 0 0 0 rfl) (.cons (.ptr 1 1 0 0 0 rfl) .nil))) rfl rfl rfl rfl))
end
section
open Go.RowKit
attribute [local irreducible] FS FO IT HS

/-- The first error; the items. -/
def erM (c : Pr → Int × Bool × Int) (l : List (Int × Pr)) : Option Int := (l.find? fun p => decide ((c p.2).2.2 ≠ 0)).map fun p => (c p.2).2.2
def itM (c : Pr → Int × Bool × Int) (l : List (Int × Pr)) : List (Int × Int) := l.filterMap fun p => if (c p.2).2.1 = true then some (p.1, (c p.2).1) else none
def resM (c : Pr → Int × Bool × Int) (n1 : Int) (a : List (Int × Int)) (n2 : Int) (b : List (Int × Int)) : Int × List (Int × Int) × Int :=
  if n1 = n2 then match erM c (mg a b) with
    | some e => (0, [], e)
    | none => (n1, itM c (mg a b), 0)
  else (0, [], 4)

theorem prs_at {l : List (Int × Pr)} {k : Nat} {x : List SV} (h : (prs l)[k]? = some x) : ∃ p, l[k]? = some p ∧ x = [.int .i64 p.1, prS p.2] := by
  simp only [prs, List.getElem?_map, Option.map_eq_some_iff] at h
  obtain ⟨p, h1, h2⟩ := h
  exact ⟨p, h1, h2.symm⟩
theorem erM_take {c : Pr → Int × Bool × Int} {l : List (Int × Pr)} {k : Nat} {p : Int × Pr} (hp : l[k]? = some p) (h : erM c (l.take k) = none) : erM c (l.take (k + 1)) = if (c p.2).2.2 ≠ 0 then some (c p.2).2.2 else none := by
  unfold erM at h ⊢
  rw [List.take_add_one, hp, List.find?_append]
  simp only [Option.map_eq_none_iff] at h
  rw [h]
  by_cases he : (c p.2).2.2 = 0 <;> simp [he]
theorem erM_found {c : Pr → Int × Bool × Int} {l : List (Int × Pr)} {k : Nat} {e : Int} (h : erM c (l.take k) = some e) : erM c l = some e := by
  unfold erM at h ⊢
  obtain ⟨p, hp, rfl⟩ := Option.map_eq_some_iff.1 h
  conv => lhs; rw [← List.take_append_drop k l, List.find?_append, hp]
  rfl
theorem itM_take {c : Pr → Int × Bool × Int} {l : List (Int × Pr)} {k : Nat} {p : Int × Pr} (hp : l[k]? = some p) : itM c (l.take (k + 1)) = itM c (l.take k) ++ if (c p.2).2.1 = true then [(p.1, (c p.2).1)] else [] := by
  unfold itM
  rw [List.take_add_one, hp, List.filterMap_append]
  congr 1
  cases h : (c p.2).2.1 <;> simp [h]
theorem itM_le (c : Pr → Int × Bool × Int) (l : List (Int × Pr)) : (itM c l).length ≤ l.length := List.length_filterMap_le _ _
theorem mgF_le : ∀ (n : Nat) (a b : List (Int × Int)), (mgF n a b).length ≤ n
  | 0, _, _ => Nat.le_refl _
  | n + 1, [], [] => Nat.zero_le _
  | n + 1, x :: xs, [] => by simp only [mgF, List.length_cons]; have := mgF_le n xs []; omega
  | n + 1, [], y :: ys => by simp only [mgF, List.length_cons]; have := mgF_le n [] ys; omega
  | n + 1, x :: xs, y :: ys => by
    have h1 := mgF_le n xs (y :: ys)
    have h2 := mgF_le n (x :: xs) ys
    have h3 := mgF_le n xs ys
    simp only [mgF]
    split
    · simp only [List.length_cons]; omega
    · split <;> simp only [List.length_cons] <;> omega
theorem mg_le (a b : List (Int × Int)) : (mg a b).length ≤ a.length + b.length := mgF_le _ a b
theorem sl_lo (n : Int) (l : List (Int × Int)) : Lo (sl n l) := fun x hx => by
  have h1 := (sl_up n l).2 x hx
  have h2 := sn_le n l
  omega

def ir_blend_made : IR :=
(.seq
 (.reg (⟨(some 3), .bx (.t 0), none⟩ ::
   ⟨(some 4), .bx (.t 1), none⟩ ::
   ⟨(some 5), .bx (.t 2), none⟩ ::
   ⟨(some 6), .al [.int .i64 0, .nils], none⟩ ::
   ⟨(some 7), .al [.int .i64 0], none⟩ ::
   []))
 (.seq
  (.draw (⟨(some 14), .ld 2 true (.t 3), none⟩ ::
    ⟨(some 15), .call (.c (.fn 71 [])) [(.t 14)], none⟩ ::
    ⟨(some 16), .ld 2 true (.t 4), none⟩ ::
    [])
   (⟨(some 17), .call (.c (.fn 71 [])) [(.t 16)], none⟩ ::
    ⟨none, .st 2 (.t 3) (.t 15), none⟩ ::
    ⟨none, .st 2 (.t 4) (.t 17), none⟩ ::
    []))
  (.seq
   (.seq
    (.reg (⟨(some 18), .fa 0 (.t 3), none⟩ ::
      ⟨(some 19), .ld 1 false (.t 18), none⟩ ::
      ⟨(some 20), .fa 0 (.t 4), none⟩ ::
      ⟨(some 21), .ld 1 false (.t 20), none⟩ ::
      ⟨(some 22), .bin .neq (.t 19) (.t 21), none⟩ ::
      []))
    (.cond (.t 22)
     (.seq
      (.reg (⟨(some 23), .bld [.int .i64 0, .nils] [], none⟩ ::
        ⟨none, .st 2 (.t 6) (.t 23), none⟩ ::
        ⟨none, .st 1 (.t 7) (.c (.int .i64 4)), none⟩ ::
        []))
      .ret)
     .skip))
   (.seq
    (.reg (⟨(some 24), .fa 0 (.t 3), none⟩ ::
      ⟨(some 25), .ld 1 false (.t 24), none⟩ ::
      ⟨(some 26), .bld [.int .i64 0, .nils] [(0, 1, (.t 25))], none⟩ ::
      ⟨(some 8), .al [.int .i64 0, .nils], none⟩ ::
      ⟨none, .st 2 (.t 8) (.t 26), none⟩ ::
      []))
    (.seq
     (.seq
      (.reg (⟨(some 27), .fa 1 (.t 3), none⟩ ::
        ⟨(some 28), .ld 1 false (.t 27), none⟩ ::
        ⟨(some 29), .fa 1 (.t 4), none⟩ ::
        ⟨(some 30), .ld 1 false (.t 29), none⟩ ::
        ⟨(some 31), .call (.c (.fn 96 [])) [(.t 28), (.t 30)], none⟩ ::
        []))
      (.block 0
       (.rng (.t 31) [32, 33]
        (.seq
         (.reg (⟨(some 9), .mv (.t 32), none⟩ ::
           []))
         (.reg (⟨(some 10), .al [.int .i64 0, .int .i64 0, .bool false, .bool false], none⟩ ::
           ⟨none, .st 4 (.t 10) (.t 33), none⟩ ::
           [])))
        (.block 1
         (.seq
          (.reg (⟨(some 35), .ld 1 false (.t 5), none⟩ ::
            ⟨(some 36), .ld 4 true (.t 10), none⟩ ::
            ⟨(some 37), .call (.t 35) [(.t 36)], none⟩ ::
            ⟨(some 34), .mv (.t 37), none⟩ ::
            ⟨(some 38), .ex 0 (.t 34), none⟩ ::
            ⟨(some 39), .ex 1 (.t 34), none⟩ ::
            ⟨(some 40), .ex 2 (.t 34), none⟩ ::
            ⟨(some 11), .mv (.t 38), none⟩ ::
            ⟨(some 12), .mv (.t 39), none⟩ ::
            ⟨(some 13), .mv (.t 40), none⟩ ::
            []))
          (.seq
           (.seq
            (.reg (⟨(some 41), .mv (.t 13), none⟩ ::
              ⟨(some 42), .bin .neq (.t 41) (.c (.int .i64 0)), none⟩ ::
              []))
            (.cond (.t 42)
             (.seq
              (.reg (⟨(some 43), .bld [.int .i64 0, .nils] [], none⟩ ::
                ⟨(some 44), .mv (.t 13), none⟩ ::
                ⟨none, .st 2 (.t 6) (.t 43), none⟩ ::
                ⟨none, .st 1 (.t 7) (.t 44), none⟩ ::
                []))
              .ret)
             .skip))
           (.seq
            (.reg (⟨(some 45), .mv (.t 12), none⟩ ::
              []))
            (.cond (.t 45)
             (.reg (⟨(some 46), .fa 1 (.t 8), none⟩ ::
               ⟨(some 47), .ld 1 false (.t 46), none⟩ ::
               ⟨(some 48), .mv (.t 9), none⟩ ::
               ⟨(some 49), .mv (.t 11), none⟩ ::
               ⟨(some 50), .bld [.int .i64 0, .int .i64 0] [(0, 1, (.t 48)), (1, 1, (.t 49))], none⟩ ::
               ⟨(some 51), .bsl 1 2 [.int .i64 0, .int .i64 0] [(0, (.t 50))], none⟩ ::
               ⟨(some 52), .ap 2 16 (.t 47) (.t 51), none⟩ ::
               ⟨(some 53), .fa 1 (.t 8), none⟩ ::
               ⟨none, .st 1 (.t 53) (.t 52), none⟩ ::
               []))
             .skip))))))))
     (.seq
      (.reg (⟨(some 54), .ld 2 true (.t 8), none⟩ ::
        ⟨none, .st 2 (.t 6) (.t 54), none⟩ ::
        ⟨none, .st 1 (.t 7) (.c (.int .i64 0)), none⟩ ::
        []))
      .ret))))))
theorem cd_blend_made : Code1 Try.prog 56 55 ir_blend_made [.c 2 true 6, .c 1 false 7] := ⟨Try.call56, _, _, Try.func56, rfl, by kernel_rfl, by kernel_rfl, by kernel_rfl, by kernel_rfl⟩

set_option maxHeartbeats 4000000 in
theorem fo_made (n1 : Int) (l1 : List (Int × Int)) (n2 : Int) (l2 : List (Int × Int)) (hl1 : l1.length ≤ 400000000) (hl2 : l2.length ≤ 400000000) (g : FuncId) (caps : List SV) (c : Pr → Int × Bool × Int) (hpu : ∀ p, SV.pure.pureL (prS p :: caps) = true)
    (hc : ∀ p ∈ mg (sl n1 l1) (sl n2 l2), FS Try.prog g (prS p.2 :: caps) (.tup [.int .i64 (c p.2).1, .bool (c p.2).2.1, .int .i64 (c p.2).2.2])) (r : Int × List (Int × Int) × Int) (hr : resM c (sn n1 l1) (sl n1 l1) (sn n2 l2) (sl n2 l2) = r) :
    FO Try.prog 56 [VC n1 l1, VC n2 l2, .fn g caps] (.tup [.agg [.int .i64 r.1, .osl 0 2 0 r.2.1.length], .int .i64 r.2.2]) [.arr 2 (its r.2.1)] := by
  refine fo_of_cvc mixed cd_blend_made (by simp) ?_
  have c1 := fs_bsure n1 l1 (by omega)
  have c2 := fs_bsure n2 l2 (by omega)
  have s1 := sl_len n1 l1
  have s2 := sl_len n2 l2
  have lo1 := sl_lo n1 l1
  have lo2 := sl_lo n2 l2
  generalize sn n1 l1 = N1 at *
  generalize sn n2 l2 = N2 at *
  generalize sl n1 l1 = a at *
  generalize sl n2 l2 = b at *
  have hml := mg_le a b
  have hcp : SV.pure.pureL caps = true := by have := hpu ⟨0, 0, false, false⟩; simpa [SV.pure.pureL, SV.pure, prS] using this
  have hpl : (prs (mg a b)).length = (mg a b).length := by simp [prs]
  by_cases hN : N1 = N2
  · repeat' (conv => whnf); first
      | ((refine Or.inl ⟨by rfl, _, c1, ?_⟩))
      | ((refine Or.inl ⟨by rfl, _, c2, ?_⟩))
      | ((refine Or.inr (Or.inl ⟨by rfl, _, _, fo_pairs a b, ?_⟩)))
      | ((refine Br.beq (by rfl) ?_))
      | ((refine Br.bne (by rfl) ?_))
      | (refine Br.tt ?_)
      | (refine Br.ff ?_)
      | (refine Br.dec (fun h => ?_) (fun h => ?_)) <;> try (exfalso; omega)
      | (refine Br.neg ?_)
      | (refine Br.mk (fun h => ?_) (fun h => ?_))
      | (refine And.intro rfl ?_)
      | (refine And.intro (by omega) ?_)
      | (refine ⟨_, Or.inl ⟨⟨by omega, by omega⟩, rfl⟩, ?_⟩)
      | (refine And.intro (by simp only [lens_all]; first | done | omega) ?_)
      | (refine And.intro (Nat.le_refl _) ?_)
      | fail
    refine ⟨[6, 7], [], [.ptr 0 0 0 0, .ptr 1 0 0 0], [.vars [IL a], .vars [IL b]], prs (mg a b), fun k => [.vars [.int .i64 N1, IL a], .vars [.int .i64 N2, IL b], .vars [.fn g caps], .vars [.int .i64 0, .nils], .vars [.int .i64 0], .vars [.int .i64 N1, .osl 8 2 0 (itM c ((mg a b).take k)).length], .dead, .dead, .arr 2 (its (itM c ((mg a b).take k)))], fun k => k ≤ (mg a b).length ∧ erM c ((mg a b).take k) = none, it_pairs a b (by omega) (by omega) lo1 lo2, rfl, rfl, rfl, rfl, by simp, by simp, ?_, ?_, fun k x hx hok => ?_, fun hok => ?_⟩
    · exact ⟨⟨rfl, rfl, trivial⟩, ⟨rfl, rfl, trivial⟩, ⟨by
        show SV.fn g (SV.kill.killL 7 (SV.kill.killL 6 caps)) = SV.fn g caps
        rw [kill_pure.killL_pure _ _ hcp, kill_pure.killL_pure _ _ hcp], trivial⟩, ⟨rfl, rfl, trivial⟩, ⟨rfl, trivial⟩, ⟨rfl, ⟨Nat.le_refl _, rfl, rfl⟩, trivial⟩, trivial, trivial, rfl, trivial⟩
    · exact ⟨Nat.zero_le _, rfl⟩
    · obtain ⟨p, hp, rfl⟩ := prs_at hx
      obtain ⟨hk1, hk2⟩ := hok
      have hpm := List.mem_of_getElem? hp
      have hil := itM_le c ((mg a b).take k)
      have htl : ((mg a b).take k).length ≤ (mg a b).length := by simp; omega
      have he := erM_take hp hk2
      have hlt := (List.getElem?_eq_some_iff.1 hp).1
      have hnext := itM_take (c := c) hp
      refine ⟨rfl, ?_⟩
      repeat' (conv => whnf); first
        | ((refine Or.inl ⟨hpu _, _, hc p hpm, ?_⟩))
        | ((refine And.intro (Or.inl (Nat.le_refl _)) ?_))
        | ((refine And.intro (by intro y hy; simp at hy; subst hy; rfl) ?_))
        | ((refine Br.beq (by rfl) ?_))
        | ((refine Br.bne (by rfl) ?_))
        | (refine Br.tt ?_)
        | (refine Br.ff ?_)
        | (refine Br.dec (fun h => ?_) (fun h => ?_)) <;> try (exfalso; omega)
        | (refine Br.neg ?_)
        | (refine Br.mk (fun h => ?_) (fun h => ?_))
        | (refine And.intro rfl ?_)
        | (refine And.intro (by omega) ?_)
        | (refine ⟨_, Or.inl ⟨⟨by omega, by omega⟩, rfl⟩, ?_⟩)
        | (refine And.intro (by simp only [lens_all, its_len]; first | done | omega) ?_)
        | (refine And.intro (Nat.le_refl _) ?_)
        | fail
      · have hf := erM_found (he.trans (if_pos h))
        have hr' : r = (0, [], (c p.2).2.2) := by rw [← hr]; unfold resM; rw [if_pos hN, hf]
        subst hr'
        exact Or.inr (Or.inr (FoS.no (MatL.tup (.cons (MatL.agg (.cons (.same _ rfl) (.cons (.nil 0 2) .nil))) (.cons (.same _ rfl) .nil))) rfl))
      · rename_i hne
        refine ⟨⟨by omega, he.trans (if_neg hne)⟩, ⟨rfl, rfl, trivial⟩, ⟨rfl, rfl, trivial⟩, ⟨(show SV.fn g (SV.kill.killL 8 caps) = SV.fn g caps by rw [kill_pure.killL_pure _ _ hcp]), trivial⟩, ⟨rfl, rfl, trivial⟩, ⟨rfl, trivial⟩, ⟨rfl, ?_, trivial⟩, trivial, trivial, ?_, ⟨by simp, ?_⟩⟩
        · show SV.osl 8 2 0 _ = SV.osl 8 2 0 _
          rw [hnext, if_pos h]; simp
          skip
        · show Blk.arr 2 (its (itM c ((mg a b).take k)) ++ [[SV.int .i64 p.1, SV.int .i64 (c p.2).1]]) = Blk.arr 2 _
          rw [hnext, if_pos h, its_append]; rfl
        · simp [bndH, SV.bnd, SV.bnd.bndL, IL, bnd_pure.bndL_pure _ _ hcp]
      · rename_i hne
        refine ⟨⟨by omega, he.trans (if_neg hne)⟩, ⟨rfl, rfl, trivial⟩, ⟨rfl, rfl, trivial⟩, ⟨rfl, trivial⟩, ⟨rfl, rfl, trivial⟩, ⟨rfl, trivial⟩, ⟨rfl, ?_, trivial⟩, trivial, trivial, ?_, ⟨by simp, ?_⟩⟩
        · show SV.osl 8 2 0 _ = SV.osl 8 2 0 _
          rw [hnext, if_neg (by rw [h]; simp), List.append_nil]
        · show Blk.arr 2 _ = Blk.arr 2 _
          rw [hnext, if_neg (by rw [h]; simp), List.append_nil]
        · simp [bndH, SV.bnd, SV.bnd.bndL, IL, bnd_pure.bndL_pure _ _ hcp]
    · obtain ⟨hk1, hk2⟩ := hok
      have e2 : (mg a b).take (prs (mg a b)).length = mg a b := by rw [hpl, List.take_length]
      rw [e2] at hk2
      have hr' : r = (N1, itM c ((mg a b).take (prs (mg a b)).length), 0) := by rw [e2, ← hr]; unfold resM; rw [if_pos hN, hk2]
      subst hr'
      repeat' (conv => whnf); first
        | ((refine Br.beq (by rfl) ?_))
        | ((refine Br.bne (by rfl) ?_))
        | (refine Br.tt ?_)
        | (refine Br.ff ?_)
        | (refine Br.dec (fun h => ?_) (fun h => ?_)) <;> try (exfalso; omega)
        | (refine Br.neg ?_)
        | (refine Br.mk (fun h => ?_) (fun h => ?_))
        | (refine And.intro rfl ?_)
        | (refine And.intro (by omega) ?_)
        | (refine ⟨_, Or.inl ⟨⟨by omega, by omega⟩, rfl⟩, ?_⟩)
        | (refine And.intro (by simp only [lens_all]; first | done | omega) ?_)
        | (refine And.intro (Nat.le_refl _) ?_)
        | fail
      exact Or.inr (Or.inr (FoS.one 8 (MatL.tup (.cons (MatL.agg (.cons (.same _ rfl) (.cons (.osl 0 8 2 0 _ rfl) .nil))) (.cons (.same _ rfl) .nil))) rfl rfl))
  · repeat' (conv => whnf); first
      | ((refine Or.inl ⟨by rfl, _, c1, ?_⟩))
      | ((refine Or.inl ⟨by rfl, _, c2, ?_⟩))
      | ((refine Br.beq (by rfl) ?_))
      | ((refine Br.bne (by rfl) ?_))
      | (refine Br.tt ?_)
      | (refine Br.ff ?_)
      | (refine Br.dec (fun h => ?_) (fun h => ?_)) <;> try (exfalso; omega)
      | (refine Br.neg ?_)
      | (refine Br.mk (fun h => ?_) (fun h => ?_))
      | (refine And.intro rfl ?_)
      | (refine And.intro (by omega) ?_)
      | (refine ⟨_, Or.inl ⟨⟨by omega, by omega⟩, rfl⟩, ?_⟩)
      | (refine And.intro (by simp only [lens_all]; first | done | omega) ?_)
      | (refine And.intro (Nat.le_refl _) ?_)
      | fail
    have hr' : r = (0, [], 4) := by rw [← hr]; unfold resM; rw [if_neg hN]
    subst hr'
    exact Or.inr (Or.inr (FoS.no (MatL.tup (.cons (MatL.agg (.cons (.same _ rfl) (.cons (.nil 0 2) .nil))) (.cons (.same _ rfl) .nil))) rfl))
end
end Go.Proofs.Ytckbagpdahhiiaa
