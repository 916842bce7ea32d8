/- Two sparse vectors: the program's functions. Two sparse vectors, place by place: in plain words. -/
import Derived.Test.YtckbagpdahhiiaaV2
namespace Go.Proofs.Ytckbagpdahhiiaa
section
open Go.RowKit
attribute [local irreducible] FS FO IT HS

/-- A vector and an error. -/
def VE (r : Int × List (Int × Int) × Int) : SV := .tup [VC r.1 r.2.1, .int .i64 r.2.2]
theorem frz_its (l : List (Int × Int)) : List.take l.length (List.drop 0 (its l)) = its l := by
  rw [List.drop_zero, ← its_len, List.take_length]
end
section
open Go.RowKit
attribute [local irreducible] FS FO IT HS

/-- What is at a place. -/
def gt (l : List (Int × Int)) (at' : Int) : Option Int := (l.find? fun x => decide (x.1 = at')).map (·.2)
theorem gt_nil (k : Int) : gt [] k = none := rfl
theorem gt_cons (x : Int × Int) (l : List (Int × Int)) (k : Int) : gt (x :: l) k = if x.1 = k then some x.2 else gt l k := by
  unfold gt
  rw [List.find?_cons]
  by_cases h : x.1 = k <;> simp [h]
theorem Up.tail {x : Int × Int} {l : List (Int × Int)} (h : Up (x :: l)) : Up l := (List.pairwise_cons.1 h).2
theorem Up.head {x : Int × Int} {l : List (Int × Int)} (h : Up (x :: l)) : ∀ y ∈ l, x.1 < y.1 := (List.pairwise_cons.1 h).1
theorem gt_none {l : List (Int × Int)} {k : Int} (h : ∀ x ∈ l, x.1 ≠ k) : gt l k = none := by
  unfold gt
  rw [Option.map_eq_none_iff, List.find?_eq_none]
  intro x hx; simpa using h x hx
theorem gt_lt {l : List (Int × Int)} {k : Int} (h : ∀ x ∈ l, k < x.1) : gt l k = none := gt_none fun x hx => by have := h x hx; omega
theorem gt_some {l : List (Int × Int)} (hu : Up l) {x : Int × Int} (hx : x ∈ l) : gt l x.1 = some x.2 := by
  induction l with
  | nil => simp at hx
  | cons y l ih =>
    rw [gt_cons]
    rcases List.mem_cons.1 hx with rfl | hx
    · simp
    · have := hu.head x hx
      rw [if_neg (by omega)]; exact ih hu.tail hx
/-- Two vectors that have the same at each place are the same. -/
theorem up_ext {l m : List (Int × Int)} (hl : Up l) (hm : Up m) (h : ∀ k, gt l k = gt m k) : l = m := by
  induction l generalizing m with
  | nil =>
    cases m with
    | nil => rfl
    | cons y m =>
      have := h y.1
      rw [gt_nil, gt_cons, if_pos rfl] at this
      cases this
  | cons x l ih =>
    cases m with
    | nil =>
      have := h x.1
      rw [gt_nil, gt_cons, if_pos rfl] at this
      cases this
    | cons y m =>
      have hxy : x.1 = y.1 := by
        rcases Int.lt_trichotomy x.1 y.1 with h' | h' | h'
        · have := h x.1
          rw [gt_cons, if_pos rfl, gt_cons, if_neg (by omega), gt_lt fun z hz => by have := hm.head z hz; omega] at this
          cases this
        · exact h'
        · have := h y.1
          rw [gt_cons, if_neg (by omega), gt_cons, if_pos rfl, gt_lt fun z hz => by have := hl.head z hz; omega] at this
          cases this
      have hv : x.2 = y.2 := by
        have := h x.1
        rw [gt_cons, if_pos rfl, gt_cons, if_pos hxy.symm] at this
        exact Option.some.inj this
      have ht : l = m := ih hl.tail hm.tail fun k => by
        have := h k
        rw [gt_cons, gt_cons, hxy] at this
        by_cases hk : y.1 = k
        · subst hk
          rw [gt_lt fun z hz => by have := hl.head z hz; omega, gt_lt fun z hz => by have := hm.head z hz; omega]
        · rwa [if_neg hk, if_neg hk] at this
      rw [ht, show x = y from Prod.ext hxy hv]
end
end Go.Proofs.Ytckbagpdahhiiaa
