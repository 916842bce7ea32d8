/- What the statements call; any matrix times any vector. Some rows, and all others. -/
import Derived.Test.YtelbhbadkbcakaaGreatE4
namespace Go.Proofs.YtelbhbadkbcakaaGreat
section
open Go.RowKit
attribute [local irreducible] FS FO IT HS
section
variable {r : Int} {rows cols : Int} {st col val : List Int} {n : Int} {f : List Nat} {v : List Int} {o : Bool}
theorem fs_pSumsN (hval : Zb val) (hn : I64 n) (hw : Wd f) (hf : f.length <= 1000000) (hv : v.length <= 1000000) (hvb : Zb v) :
    FS Tryz.prog 65 [.int .i64 r,MX rows cols st col val,DV n f v,.nils,.bool o] (SE (sumsR r (mS rows cols st col val) (dS n f v) [] o)) :=
  fs_le (fs_pSums r rows cols st col val n f v [] o hval hn hw hf hv hvb (fun x hx=>by cases hx)) ⟨rfl,rfl,rfl,rfl,rfl,trivial⟩
end
end
section
open Go.RowKit
attribute [local irreducible] FS FO IT HS
theorem sumsL_filt {R : Nat -> Option Int} (q : Int -> Bool) (l : List Nat) : sumsL R (l.filter fun (i : Nat)=>q (i : Int)) = (sumsL R l).filter fun x=>q x.1:=by
  unfold sumsL
  induction l with
  | nil=>rfl
  | cons i l ih =>
    rw [List.filter_cons,List.filterMap_cons]
    cases hr : R i with
    | none =>
      simp only [Option.map_none]
      rw [<- ih]
      cases hq : q (i : Int) with
      | true=>rw [if_pos rfl,List.filterMap_cons,hr]; rfl
      | false=>rw [if_neg (by simp)]
    | some s =>
      simp only [Option.map_some]
      rw [List.filter_cons]
      cases hq : q (i : Int) with
      | true=>rw [if_pos rfl,if_pos rfl,List.filterMap_cons,hr,ih]; rfl
      | false=>rw [if_neg (by simp),if_neg (by simp),ih]
theorem rgt_R (r : Int) : isR (rgt r) = true:=by
  unfold rgt isR
  split
  . rfl
  . rw [decide_eq_true (by omega),decide_eq_true (by omega)]; rfl
theorem sumsR_fit {r : Int} {m : Mat5} {x : Den3} {g : List Nat} {o : Bool} (hr : isR r = true) (h : x.1 = m.2.1) : sumsR r m x g o = (sumsL (fun i=>rowO r (dG x.2.1 x.2.2) (rowL m.2.2.1 m.2.2.2.1 m.2.2.2.2 i)) (askL m.1 g o),0):=by
  unfold sumsR; rw [if_pos hr,if_pos h]
theorem tkV_V {r b : Int} {w : List (Int × Int)} (hb : 0 <= b /\ b <= 255) (hw : Ib w) : (tkV r b w).1 = b.tmod 40 /\ OkV (b.tmod 40) (tkV r b w).2 /\ (∀ x ∈ (tkV r b w).2,∃ n,I64 n /\ x.2 = valR (rgt r) n) /\ (tkV r b w).2.length <= 60:=by
  obtain ⟨A,e1,e2,hA,iA,lA⟩:=tkV_ok (r:=r) hb hw
  rw [e2]
  refine ⟨e1,⟨hA.n0,hA.n1,?_,fun x hx=>?_⟩,fun x hx=>?_,by simpa using lA⟩
  . exact List.pairwise_map.2 hA.up
  . obtain ⟨y,hy,rfl⟩:=List.mem_map.1 hx
    exact hA.lo y hy
  . obtain ⟨y,hy,rfl⟩:=List.mem_map.1 hx
    exact ⟨y.2,(iA y hy).2,rfl⟩
theorem zb_toL {n : Int} {l : List (Int × Int)} (h : ∀ x ∈ l,I64 x.2) : Zb (toL n l):=fun x hx=>by
  obtain ⟨i,_,rfl⟩:=List.mem_map.1 hx
  cases hg : gt l (i : Int) with
  | none=>exact I0
  | some v=>exact h _ (gt_mem hg)
end
end Go.Proofs.YtelbhbadkbcakaaGreat
