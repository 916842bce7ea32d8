/- Sparse vectors: which are right. Sparse vectors: where a place stands. Sparse vectors: the value at a place; copies. Sparse vectors: without some items. Sparse vectors: at places of a set; without a place. Two sparse vectors: the places of both. What comes of two sparse vectors, place by place. Two sparse vectors: the program's functions. Two sparse vectors, place by place: in plain words. -/
import Derived.Test.YtllpapoejafloaaGreatW2
import Derived.Test.YtllpapoejafloaaGreatF2
namespace Go.Proofs.YtllpapoejafloaaGreat
section
open Go.RowKit
attribute [local irreducible] FS FO IT HS

/-- Items: a place and a value each. -/
def its (l : List (Int × Int)) : List (List SV) := l.map fun x => [.int .i64 x.1, .int .i64 x.2]
def IL (l : List (Int × Int)) : SV := .slc 2 (its l)
def VC (n : Int) (l : List (Int × Int)) : SV := .agg [.int .i64 n, IL l]

theorem its_len (l : List (Int × Int)) : (its l).length = l.length := by simp [its]
theorem its_get {l : List (Int × Int)} {k : Nat} {x : List SV} (h : (its l)[k]? = some x) : ∃ y, l[k]? = some y ∧ x = [.int .i64 y.1, .int .i64 y.2] := by
  simp only [its, List.getElem?_map, Option.map_eq_some_iff] at h
  obtain ⟨y, h1, h2⟩ := h
  exact ⟨y, h1, h2.symm⟩

/-- Numbers of Go. -/
def Ib (l : List (Int × Int)) : Prop := ∀ x ∈ l, I64 x.1 ∧ I64 x.2
theorem Ib.at {l : List (Int × Int)} (h : Ib l) {k : Nat} {y : Int × Int} (hk : l[k]? = some y) : I64 y.1 ∧ I64 y.2 := h y (List.mem_of_getElem? hk)

/-- The places rise from a last one on, below a bound. -/
def ups (n : Int) : Int → List (Int × Int) → Bool
  | _, [] => true
  | l, x :: xs => !(decide (x.1 ≤ l) || decide (n ≤ x.1)) && ups n x.1 xs
/-- The first item from the k-th on that is wrong. -/
def badAt (n : Int) : Int → List (Int × Int) → Nat → Int
  | _, [], _ => -1
  | l, x :: xs, k => if (decide (x.1 ≤ l) || decide (n ≤ x.1)) = true then k else badAt n x.1 xs (k + 1)
theorem badAt_ups (n : Int) : ∀ (xs : List (Int × Int)) (l : Int) (k : Nat), decide (0 ≤ badAt n l xs k) = !ups n l xs
  | [], l, k => rfl
  | x :: xs, l, k => by
    simp only [badAt, ups]
    split
    · rename_i h; rw [h]; simp
    · rename_i h; rw [badAt_ups n xs]; simp only [Bool.not_eq_true] at h; rw [h]; rfl
def isV (n : Int) (l : List (Int × Int)) : Bool := decide (0 ≤ n) && decide (n ≤ 4096) && ups n (-1) l

/-- The place ahead of the k-th item. -/
def lst (last : Int) (l : List (Int × Int)) : Nat → Int
  | 0 => last
  | k + 1 => (l.getD k (0, 0)).1
theorem badAt_step (n last : Int) (l : List (Int × Int)) (k : Nat) (y : Int × Int) (hk : l[k]? = some y) : badAt n (lst last l k) (l.drop k) k = if (decide (y.1 ≤ lst last l k) || decide (n ≤ y.1)) = true then (k : Int) else badAt n (lst last l (k + 1)) (l.drop (k + 1)) (k + 1) := by
  have hlt := (List.getElem?_eq_some_iff.1 hk).1
  have he := (List.getElem?_eq_some_iff.1 hk).2
  rw [List.drop_eq_getElem_cons hlt, he, badAt]
  have : lst last l (k + 1) = y.1 := by simp [lst, List.getD_eq_getElem?_getD, hk]
  rw [this]

/-- A vector that can be. -/
def sn (n : Int) (l : List (Int × Int)) : Int := if isV n l = true then n else 0
def sl (n : Int) (l : List (Int × Int)) : List (Int × Int) := if isV n l = true then l else []

/-- The places rise. -/
def Up (l : List (Int × Int)) : Prop := l.Pairwise fun x y => x.1 < y.1
theorem ups_up (n : Int) : ∀ (l : List (Int × Int)) (k : Int), ups n k l = true → Up l ∧ ∀ x ∈ l, k < x.1 ∧ x.1 < n
  | [], k, _ => ⟨.nil, by simp⟩
  | x :: xs, k, h => by
    simp [ups] at h
    obtain ⟨h1, h2⟩ := ups_up n xs x.1 h.2
    refine ⟨List.pairwise_cons.2 ⟨fun y hy => (h2 y hy).1, h1⟩, fun y hy => ?_⟩
    rcases List.mem_cons.1 hy with rfl | hy
    · exact h.1
    · have := h2 y hy; omega
theorem sl_up (n : Int) (l : List (Int × Int)) : Up (sl n l) ∧ ∀ x ∈ sl n l, 0 ≤ x.1 ∧ x.1 < sn n l := by
  unfold sl sn
  split
  · rename_i h
    simp [isV] at h
    obtain ⟨h1, h2⟩ := ups_up n l (-1) h.2
    exact ⟨h1, fun x hx => by have := h2 x hx; omega⟩
  · exact ⟨.nil, by simp⟩
theorem sn_le (n : Int) (l : List (Int × Int)) : 0 ≤ sn n l ∧ sn n l ≤ 4096 := by
  unfold sn
  split
  · rename_i h; simp [isV] at h; omega
  · omega
end
section
open Go.RowKit
attribute [local irreducible] FS FO IT HS

def ir_cmp_isNaN_int : IR :=
(.seq (.reg (⟨(some 2), .mv (.c (.bool false)), none⟩ :: [])) (.seq (.reg (⟨(some 3), .mv (.t 0), none⟩ ::⟨(some 4), .mv (.t 0), none⟩ ::⟨(some 5), .bin .neq (.t 3) (.t 4), none⟩ ::⟨(some 2), .mv (.t 5), none⟩ :: [])) .ret))
theorem cd_cmp_isNaN_int : Code1 Tryz.prog 106 6 ir_cmp_isNaN_int [.t 2] := ⟨Tryz.call106, _, _, Tryz.func106, rfl, by kernel_rfl, by kernel_rfl, by kernel_rfl, by kernel_rfl⟩

theorem fs_nan (n : Int) : FS Tryz.prog 106 [.int .i64 n] (.bool false) := by
  refine fs_of_cvc mixed cd_cmp_isNaN_int (by simp) ?_
  repeat' (conv => whnf); first
    | ((refine fun x hx => ?_); (obtain ⟨y, hy, rfl⟩ := its_get hx; clear hx))
    | ((refine Br.beq (by rfl) ?_))
    | ((refine Br.bne (by rfl) ?_))
    | (refine Br.tt ?_)
    | (refine Br.ff ?_)
    | (refine Br.dec (fun h => ?_) (fun h => ?_)) <;> try (exfalso; omega)
    | (refine Br.neg ?_)
    | (refine Br.mk (fun h => ?_) (fun h => ?_))
    | (refine And.intro rfl ?_)
    | (refine And.intro (by omega) ?_)
    | (refine ⟨_, Or.inl ⟨⟨by omega, by omega⟩, rfl⟩, ?_⟩)
    | (refine And.intro (by simp only [lens_all, its_len]; first | done | omega) ?_)
    | (refine And.intro (Nat.le_refl _) ?_)
    | fail
  all_goals (show SV.bool _ = SV.bool _; simp)
end
section
open Go.RowKit
attribute [local irreducible] FS FO IT HS

theorem sl_len (n : Int) (l : List (Int × Int)) : (sl n l).length ≤ l.length := by unfold sl; split <;> simp
end
section
open Go.RowKit
attribute [local irreducible] FS FO IT HS

/-- The place of the first one of a kind, or -1. -/
def idxI (p : Int × Int → Bool) (l : List (Int × Int)) : Int := match l.findIdx? p with
  | some i => i
  | none => -1
theorem idxI_step {p : Int × Int → Bool} {l : List (Int × Int)} {k : Nat} {y : Int × Int} (h : ∀ (j : Nat) (x : Int × Int), j < k → l[j]? = some x → p x = false) (hy : l[k]? = some y) (hp : p y = true) : idxI p l = k := by
  have hlt := (List.getElem?_eq_some_iff.1 hy).1
  have : l.findIdx? p = some k := by
    rw [List.findIdx?_eq_some_iff_getElem]
    refine ⟨hlt, by rw [(List.getElem?_eq_some_iff.1 hy).2]; exact hp, fun j hj => ?_⟩
    have := h j _ hj (List.getElem?_eq_getElem (by omega))
    simp [this]
  rw [idxI, this]
theorem idxI_none {p : Int × Int → Bool} {l : List (Int × Int)} (h : ∀ (j : Nat) (x : Int × Int), l[j]? = some x → p x = false) : idxI p l = -1 := by
  have : l.findIdx? p = none := by
    rw [List.findIdx?_eq_none_iff]
    intro x hx
    obtain ⟨j, hj⟩ := List.mem_iff_getElem?.1 hx
    simp [h j x hj]
  rw [idxI, this]

theorem its_append (l m : List (Int × Int)) : its (l ++ m) = its l ++ its m := by simp [its]
theorem idx_cases (p : Int × Int → Bool) (l : List (Int × Int)) : (idxI p l = -1 ∧ ∀ x ∈ l, p x = false) ∨ ∃ i : Nat, idxI p l = i ∧ i < l.length ∧ (∀ x ∈ l.take i, p x = false) ∧ p (l.getD i (0, 0)) = true := by
  unfold idxI
  cases h : l.findIdx? p with
  | none =>
    left
    rw [List.findIdx?_eq_none_iff] at h
    exact ⟨rfl, h⟩
  | some i =>
    right
    rw [List.findIdx?_eq_some_iff_getElem] at h
    obtain ⟨h1, h2, h3⟩ := h
    refine ⟨i, rfl, h1, fun x hx => ?_, by simpa [h1] using h2⟩
    obtain ⟨j, hj, rfl⟩ := List.mem_iff_getElem.1 hx
    have hj' : j < i := by simp at hj; omega
    have := h3 j hj'
    simpa using this

/-- The items that are not of a kind. -/
def rest (p : Int × Int → Bool) (l : List (Int × Int)) : List (Int × Int) := l.filter fun x => !p x
end
section
open Go.RowKit
attribute [local irreducible] FS FO IT HS

theorem Ib.sl {n : Int} {l : List (Int × Int)} (h : Ib l) : Ib (sl n l) := by
  unfold Go.Proofs.YtllpapoejafloaaGreat.sl; split
  · exact h
  · intro x hx; simp at hx
end
section
open Go.RowKit
attribute [local irreducible] FS FO IT HS
end
section
open Go.RowKit
attribute [local irreducible] FS FO IT HS
end
section
open Go.RowKit
attribute [local irreducible] FS FO IT HS

theorem I0 : I64 0 := by unfold I64; omega
/-- A vector and an error. -/
def VE (r : Int × List (Int × Int) × Int) : SV := .tup [VC r.1 r.2.1, .int .i64 r.2.2]
theorem frz_its (l : List (Int × Int)) : List.take l.length (List.drop 0 (its l)) = its l := by
  rw [List.drop_zero, ← its_len, List.take_length]
end
section
open Go.RowKit
attribute [local irreducible] FS FO IT HS

/-- What is at a place. -/
def gt (l : List (Int × Int)) (at' : Int) : Option Int := (l.find? fun x => decide (x.1 = at')).map (·.2)
theorem gt_nil (k : Int) : gt [] k = none := rfl
theorem gt_cons (x : Int × Int) (l : List (Int × Int)) (k : Int) : gt (x :: l) k = if x.1 = k then some x.2 else gt l k := by
  unfold gt
  rw [List.find?_cons]
  by_cases h : x.1 = k <;> simp [h]
theorem Up.tail {x : Int × Int} {l : List (Int × Int)} (h : Up (x :: l)) : Up l := (List.pairwise_cons.1 h).2
theorem Up.head {x : Int × Int} {l : List (Int × Int)} (h : Up (x :: l)) : ∀ y ∈ l, x.1 < y.1 := (List.pairwise_cons.1 h).1
theorem gt_none {l : List (Int × Int)} {k : Int} (h : ∀ x ∈ l, x.1 ≠ k) : gt l k = none := by
  unfold gt
  rw [Option.map_eq_none_iff, List.find?_eq_none]
  intro x hx; simpa using h x hx
theorem gt_lt {l : List (Int × Int)} {k : Int} (h : ∀ x ∈ l, k < x.1) : gt l k = none := gt_none fun x hx => by have := h x hx; omega
theorem gt_some {l : List (Int × Int)} (hu : Up l) {x : Int × Int} (hx : x ∈ l) : gt l x.1 = some x.2 := by
  induction l with
  | nil => simp at hx
  | cons y l ih =>
    rw [gt_cons]
    rcases List.mem_cons.1 hx with rfl | hx
    · simp
    · have := hu.head x hx
      rw [if_neg (by omega)]; exact ih hu.tail hx
theorem gt_mem {l : List (Int × Int)} {k v : Int} (h : gt l k = some v) : (k, v) ∈ l := by
  unfold gt at h
  obtain ⟨x, hx, rfl⟩ := Option.map_eq_some_iff.1 h
  have h1 := List.find?_some hx
  simp at h1
  subst h1
  exact List.mem_of_find?_eq_some hx
end
end Go.Proofs.YtllpapoejafloaaGreat
