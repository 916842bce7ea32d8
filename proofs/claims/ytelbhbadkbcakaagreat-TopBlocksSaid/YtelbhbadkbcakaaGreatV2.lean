/- Sparse vectors: the document's functions. Two sparse vectors: the document's functions. Two sparse vectors: the document's functions, further. Sparse vectors: the document's Put; Over. Two sparse vectors: the program's answers are the document's. In plain words. The laws on two sparse vectors: what they call. -/
import Derived.Test.YtelbhbadkbcakaaGreatV1
namespace Go.Proofs.YtelbhbadkbcakaaGreat
section
open Go.RowKit
attribute [local irreducible] FS FO IT HS
theorem its_is {l : List (Int × Int)} {q : Nat} {x : List SV} (h : (its l)[q]? = some x) {i : Nat} (hq : q = i) : x = [.int .i64 (l.getD i (0,0)).1,.int .i64 (l.getD i (0,0)).2]:=by
  subst hq
  obtain ⟨y,hy,rfl⟩:=its_get h
  simp [hy]
theorem its_go {l : List (Int × Int)} {q : Nat} {i : Nat} {K : List SV -> Prop} (hq : q = i) (h : K [.int .i64 (l.getD i (0,0)).1,.int .i64 (l.getD i (0,0)).2]) : ∀ x,(its l)[q]? = some x -> K x:=fun x hx=>by rw [its_is hx hq]; exact h
theorem getD_some {l : List (Int × Int)} {i : Nat} (h : i < l.length) : l[i]? = some (l.getD i (0,0)):=by simp [h]
end
section
open Go.RowKit
attribute [local irreducible] FS FO IT HS
end
section
open Go.RowKit
attribute [local irreducible] FS FO IT HS
theorem vtake_more {l : List (Int × Int)} {k : Nat} (h : k < l.length) : l.take (k + 1) = l.take k ++ [l.getD k (0,0)]:=by
  rw [List.take_add_one,getD_some h]; rfl
end
section
open Go.RowKit
attribute [local irreducible] FS FO IT HS
end
section
open Go.RowKit
attribute [local irreducible] FS FO IT HS
structure OkV (n : Int) (l : List (Int × Int)) : Prop where
  n0 : 0 <= n
  n1 : n <= 4096
  up : Up l
  lo : ∀ x ∈ l,0 <= x.1 /\ x.1 < n
theorem okV (n : Int) (l : List (Int × Int)) : OkV (sn n l) (sl n l):=⟨(sn_le n l).1,(sn_le n l).2,(sl_up n l).1,(sl_up n l).2⟩
theorem ups_of {n : Int} : ∀ {l : List (Int × Int)} {k : Int},Up l -> (∀ x ∈ l,k < x.1 /\ x.1 < n) -> ups n k l = true
  | [],_,_,_=>rfl
  | x :: xs, k, h, hk => by
    have h1:=hk x (by simp)
    simp only [ups,Bool.and_eq_true]
    refine ⟨?_,ups_of h.tail fun y hy=>⟨h.head y hy,(hk y (by simp [hy])).2⟩⟩
    rw [decide_eq_false (by omega),decide_eq_false (by omega)]; rfl
theorem OkV.isV {n : Int} {l : List (Int × Int)} (h : OkV n l) : isV n l = true:=by
  unfold Go.Proofs.YtelbhbadkbcakaaGreat.isV
  rw [decide_eq_true h.n0,decide_eq_true h.n1,ups_of h.up fun x hx=>by have:=h.lo x hx; omega]; rfl
theorem OkV.sn {n : Int} {l : List (Int × Int)} (h : OkV n l) : sn n l = n:=if_pos h.isV
theorem OkV.sl {n : Int} {l : List (Int × Int)} (h : OkV n l) : sl n l = l:=if_pos h.isV
theorem OkV.out {n : Int} {l : List (Int × Int)} (h : OkV n l) {k : Int} (hk : ¬ (0 <= k /\ k < n)) : gt l k = none:=gt_none fun x hx e=>hk (e ▸ h.lo x hx)
theorem gt_fm {f : Int × Int -> Option (Int × Int)} (hf : ∀ x y,f x = some y -> y.1 = x.1) : ∀ {l : List (Int × Int)},Up l -> ∀ k,gt (l.filterMap f) k = (gt l k).bind fun v=>(f (k,v)).map (·.2)
  | [],_,k=>rfl
  | x :: xs, h, k => by
    rw [List.filterMap_cons,gt_cons]
    have ih:=gt_fm hf h.tail k
    have hn : x.1 = k -> gt (xs.filterMap f) k = none:=fun e=>gt_none fun z hz=>by
      obtain ⟨w,hw,hz⟩:=List.mem_filterMap.1 hz
      have:=h.head w hw
      rw [hf w z hz]; omega
    have hx' : x.1 = k -> (k,x.2) = x:=fun e=>by rw [<- e]
    cases hx : f x with
    | none =>
      by_cases hk : x.1 = k
      . rw [if_pos hk,Option.bind_some,hx' hk,hx]; simpa using hn hk
      . rw [if_neg hk]; exact ih
    | some y =>
      simp only []
      rw [gt_cons,hf x y hx]
      by_cases hk : x.1 = k
      . rw [if_pos hk,if_pos hk,Option.bind_some,hx' hk,hx]; rfl
      . rw [if_neg hk,if_neg hk]; exact ih
def tabL (g : Int -> Option Int) (m : Nat) : List (Int × Int):=(List.range m).filterMap fun (i : Nat)=>(g (i : Int)).map fun v=>((i : Int),v)
theorem tabL_succ (g : Int -> Option Int) (m : Nat) : tabL g (m + 1) = tabL g m ++ ((g (m : Int)).map fun v=>((m : Int),v)).toList:=by
  unfold tabL
  rw [List.range_succ,List.filterMap_append]
  congr 1
theorem tabL_mem {g : Int -> Option Int} {m : Nat} {x : Int × Int} (h : x ∈ tabL g m) : 0 <= x.1 /\ x.1 < m /\ g x.1 = some x.2:=by
  obtain ⟨i,hi,h⟩:=List.mem_filterMap.1 h
  obtain ⟨v,hv,rfl⟩:=Option.map_eq_some_iff.1 h
  have:=List.mem_range.1 hi
  exact ⟨by simp,by simp; omega,hv⟩
theorem up_tabL (g : Int -> Option Int) : ∀ m,Up (tabL g m)
  | 0=>.nil
  | m + 1 => by
    rw [tabL_succ]
    refine List.pairwise_append.2 ⟨up_tabL g m,?_,fun x hx y hy=>?_⟩
    . cases g (m : Int) <;> simp
    . have:=(tabL_mem hx).2.1
      cases hg : g (m : Int) with
      | none=>rw [hg] at hy; simp at hy
      | some v=>rw [hg] at hy; simp at hy; subst hy; exact this
theorem gt_append {l m : List (Int × Int)} (k : Int) : gt (l ++ m) k = (gt l k).or (gt m k):=by
  unfold gt
  rw [List.find?_append]
  cases l.find? fun x=>decide (x.1 = k) <;> simp
theorem gt_tabL (g : Int -> Option Int) : ∀ (m : Nat) (k : Int),gt (tabL g m) k = if 0 <= k /\ k < m then g k else none
  | 0,k=>by rw [if_neg (by omega)]; rfl
  | m + 1, k => by
    rw [tabL_succ,gt_append,gt_tabL g m k]
    by_cases h : 0 <= k /\ k < m
    . rw [if_pos h,if_pos (by omega)]
      cases hg : g k with
      | some v=>rfl
      | none =>
        rw [Option.none_or]
        cases hm : g (m : Int) with
        | none=>rfl
        | some v =>
          show gt [((m : Int),v)] k = none
          rw [gt_cons,if_neg (by show (m : Int) ≠ k; omega)]; rfl
    . rw [if_neg h,Option.none_or]
      by_cases h' : k = m
      . subst h'
        rw [if_pos (by omega)]
        cases hm : g (m : Int) with
        | none=>rfl
        | some v=>show gt [((m : Int),v)] (m : Int) = some v; rw [gt_cons,if_pos rfl]
      . rw [if_neg (by omega)]
        cases hm : g (m : Int) with
        | none=>rfl
        | some v=>show gt [((m : Int),v)] k = none; rw [gt_cons,if_neg (by show (m : Int) ≠ k; omega)]; rfl
section
variable {n : Int} {a b : List (Int × Int)} (ha : OkV n a) (hb : OkV n b)
include ha hb
end
/-! ### What is put -/
end
section
open Go.RowKit
attribute [local irreducible] FS FO IT HS
end
end Go.Proofs.YtelbhbadkbcakaaGreat
