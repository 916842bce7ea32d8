/- Sparse vectors: which are right. Sparse vectors: where a place stands. Sparse vectors: the value at a place; copies. Sparse vectors: without some items. Sparse vectors: at places of a set; without a place. Two sparse vectors: the places of both. What comes of two sparse vectors, place by place. Two sparse vectors: the program's functions. Two sparse vectors, place by place: in plain words. -/
import Derived.Test.YtlbmjnammgffiaaW2
import Derived.Test.YtlbmjnammgffiaaF2
namespace Go.Proofs.Ytlbmjnammgffiaa
section
open Go.RowKit
attribute [local irreducible] FS FO IT HS

/-- Items: a place and a value each. -/
def its (l : List (Int × Int)) : List (List SV) := l.map fun x => [.int .i64 x.1, .int .i64 x.2]
def IL (l : List (Int × Int)) : SV := .slc 2 (its l)
def VC (n : Int) (l : List (Int × Int)) : SV := .agg [.int .i64 n, IL l]

theorem its_len (l : List (Int × Int)) : (its l).length = l.length := by simp [its]
theorem its_get {l : List (Int × Int)} {k : Nat} {x : List SV} (h : (its l)[k]? = some x) : ∃ y, l[k]? = some y ∧ x = [.int .i64 y.1, .int .i64 y.2] := by
  simp only [its, List.getElem?_map, Option.map_eq_some_iff] at h
  obtain ⟨y, h1, h2⟩ := h
  exact ⟨y, h1, h2.symm⟩

/-- Numbers of Go. -/
def Ib (l : List (Int × Int)) : Prop := ∀ x ∈ l, I64 x.1 ∧ I64 x.2
theorem Ib.at {l : List (Int × Int)} (h : Ib l) {k : Nat} {y : Int × Int} (hk : l[k]? = some y) : I64 y.1 ∧ I64 y.2 := h y (List.mem_of_getElem? hk)

/-- The places rise from a last one on, below a bound. -/
def ups (n : Int) : Int → List (Int × Int) → Bool
  | _, [] => true
  | l, x :: xs => !(decide (x.1 ≤ l) || decide (n ≤ x.1)) && ups n x.1 xs
/-- The first item from the k-th on that is wrong. -/
def badAt (n : Int) : Int → List (Int × Int) → Nat → Int
  | _, [], _ => -1
  | l, x :: xs, k => if (decide (x.1 ≤ l) || decide (n ≤ x.1)) = true then k else badAt n x.1 xs (k + 1)
theorem badAt_ups (n : Int) : ∀ (xs : List (Int × Int)) (l : Int) (k : Nat), decide (0 ≤ badAt n l xs k) = !ups n l xs
  | [], l, k => rfl
  | x :: xs, l, k => by
    simp only [badAt, ups]
    split
    · rename_i h; rw [h]; simp
    · rename_i h; rw [badAt_ups n xs]; simp only [Bool.not_eq_true] at h; rw [h]; rfl
def isV (n : Int) (l : List (Int × Int)) : Bool := decide (0 ≤ n) && decide (n ≤ 4096) && ups n (-1) l

/-- The place ahead of the k-th item. -/
def lst (last : Int) (l : List (Int × Int)) : Nat → Int
  | 0 => last
  | k + 1 => (l.getD k (0, 0)).1
theorem badAt_step (n last : Int) (l : List (Int × Int)) (k : Nat) (y : Int × Int) (hk : l[k]? = some y) : badAt n (lst last l k) (l.drop k) k = if (decide (y.1 ≤ lst last l k) || decide (n ≤ y.1)) = true then (k : Int) else badAt n (lst last l (k + 1)) (l.drop (k + 1)) (k + 1) := by
  have hlt := (List.getElem?_eq_some_iff.1 hk).1
  have he := (List.getElem?_eq_some_iff.1 hk).2
  rw [List.drop_eq_getElem_cons hlt, he, badAt]
  have : lst last l (k + 1) = y.1 := by simp [lst, List.getD_eq_getElem?_getD, hk]
  rw [this]

/-- A vector that can be. -/
def sn (n : Int) (l : List (Int × Int)) : Int := if isV n l = true then n else 0
def sl (n : Int) (l : List (Int × Int)) : List (Int × Int) := if isV n l = true then l else []

/-- The places rise. -/
def Up (l : List (Int × Int)) : Prop := l.Pairwise fun x y => x.1 < y.1
theorem ups_up (n : Int) : ∀ (l : List (Int × Int)) (k : Int), ups n k l = true → Up l ∧ ∀ x ∈ l, k < x.1 ∧ x.1 < n
  | [], k, _ => ⟨.nil, by simp⟩
  | x :: xs, k, h => by
    simp [ups] at h
    obtain ⟨h1, h2⟩ := ups_up n xs x.1 h.2
    refine ⟨List.pairwise_cons.2 ⟨fun y hy => (h2 y hy).1, h1⟩, fun y hy => ?_⟩
    rcases List.mem_cons.1 hy with rfl | hy
    · exact h.1
    · have := h2 y hy; omega
theorem sl_up (n : Int) (l : List (Int × Int)) : Up (sl n l) ∧ ∀ x ∈ sl n l, 0 ≤ x.1 ∧ x.1 < sn n l := by
  unfold sl sn
  split
  · rename_i h
    simp [isV] at h
    obtain ⟨h1, h2⟩ := ups_up n l (-1) h.2
    exact ⟨h1, fun x hx => by have := h2 x hx; omega⟩
  · exact ⟨.nil, by simp⟩
theorem sn_le (n : Int) (l : List (Int × Int)) : 0 ≤ sn n l ∧ sn n l ≤ 4096 := by
  unfold sn
  split
  · rename_i h; simp [isV] at h; omega
  · omega
end
section
open Go.RowKit
attribute [local irreducible] FS FO IT HS

def ir_cmp_isNaN_int : IR :=
(.seq (.reg (⟨(some 2), .mv (.c (.bool false)), none⟩ :: [])) (.seq (.reg (⟨(some 3), .mv (.t 0), none⟩ ::⟨(some 4), .mv (.t 0), none⟩ ::⟨(some 5), .bin .neq (.t 3) (.t 4), none⟩ ::⟨(some 2), .mv (.t 5), none⟩ :: [])) .ret))
theorem cd_cmp_isNaN_int : Code1 Try.prog 111 6 ir_cmp_isNaN_int [.t 2] := ⟨Try.call111, _, _, Try.func111, rfl, by kernel_rfl, by kernel_rfl, by kernel_rfl, by kernel_rfl⟩

theorem fs_nan (n : Int) : FS Try.prog 111 [.int .i64 n] (.bool false) := by
  refine fs_of_cvc mixed cd_cmp_isNaN_int (by simp) ?_
  repeat' (conv => whnf); first
    | ((refine fun x hx => ?_); (obtain ⟨y, hy, rfl⟩ := its_get hx; clear hx))
    | ((refine Br.beq (by rfl) ?_))
    | ((refine Br.bne (by rfl) ?_))
    | (refine Br.tt ?_)
    | (refine Br.ff ?_)
    | (refine Br.dec (fun h => ?_) (fun h => ?_)) <;> try (exfalso; omega)
    | (refine Br.neg ?_)
    | (refine Br.mk (fun h => ?_) (fun h => ?_))
    | (refine And.intro rfl ?_)
    | (refine And.intro (by omega) ?_)
    | (refine ⟨_, Or.inl ⟨⟨by omega, by omega⟩, rfl⟩, ?_⟩)
    | (refine And.intro (by simp only [lens_all, its_len]; first | done | omega) ?_)
    | (refine And.intro (Nat.le_refl _) ?_)
    | fail
  all_goals (show SV.bool _ = SV.bool _; simp)
end
section
open Go.RowKit
attribute [local irreducible] FS FO IT HS

theorem sl_len (n : Int) (l : List (Int × Int)) : (sl n l).length ≤ l.length := by unfold sl; split <;> simp
end
section
open Go.RowKit
attribute [local irreducible] FS FO IT HS

/-- The place of the first one of a kind, or -1. -/
def idxI (p : Int × Int → Bool) (l : List (Int × Int)) : Int := match l.findIdx? p with
  | some i => i
  | none => -1
theorem idxI_step {p : Int × Int → Bool} {l : List (Int × Int)} {k : Nat} {y : Int × Int} (h : ∀ (j : Nat) (x : Int × Int), j < k → l[j]? = some x → p x = false) (hy : l[k]? = some y) (hp : p y = true) : idxI p l = k := by
  have hlt := (List.getElem?_eq_some_iff.1 hy).1
  have : l.findIdx? p = some k := by
    rw [List.findIdx?_eq_some_iff_getElem]
    refine ⟨hlt, by rw [(List.getElem?_eq_some_iff.1 hy).2]; exact hp, fun j hj => ?_⟩
    have := h j _ hj (List.getElem?_eq_getElem (by omega))
    simp [this]
  rw [idxI, this]
theorem idxI_none {p : Int × Int → Bool} {l : List (Int × Int)} (h : ∀ (j : Nat) (x : Int × Int), l[j]? = some x → p x = false) : idxI p l = -1 := by
  have : l.findIdx? p = none := by
    rw [List.findIdx?_eq_none_iff]
    intro x hx
    obtain ⟨j, hj⟩ := List.mem_iff_getElem?.1 hx
    simp [h j x hj]
  rw [idxI, this]

theorem its_append (l m : List (Int × Int)) : its (l ++ m) = its l ++ its m := by simp [its]
theorem idx_cases (p : Int × Int → Bool) (l : List (Int × Int)) : (idxI p l = -1 ∧ ∀ x ∈ l, p x = false) ∨ ∃ i : Nat, idxI p l = i ∧ i < l.length ∧ (∀ x ∈ l.take i, p x = false) ∧ p (l.getD i (0, 0)) = true := by
  unfold idxI
  cases h : l.findIdx? p with
  | none =>
    left
    rw [List.findIdx?_eq_none_iff] at h
    exact ⟨rfl, h⟩
  | some i =>
    right
    rw [List.findIdx?_eq_some_iff_getElem] at h
    obtain ⟨h1, h2, h3⟩ := h
    refine ⟨i, rfl, h1, fun x hx => ?_, by simpa [h1] using h2⟩
    obtain ⟨j, hj, rfl⟩ := List.mem_iff_getElem.1 hx
    have hj' : j < i := by simp at hj; omega
    have := h3 j hj'
    simpa using this

/-- The items that are not of a kind. -/
def rest (p : Int × Int → Bool) (l : List (Int × Int)) : List (Int × Int) := l.filter fun x => !p x
end
section
open Go.RowKit
attribute [local irreducible] FS FO IT HS

theorem Ib.sl {n : Int} {l : List (Int × Int)} (h : Ib l) : Ib (sl n l) := by
  unfold Go.Proofs.Ytlbmjnammgffiaa.sl; split
  · exact h
  · intro x hx; simp at hx
end
section
open Go.RowKit
attribute [local irreducible] FS FO IT HS

/-- What two vectors have at a place: two values, and whether there are any. -/
structure Pr where
  x : Int
  y : Int
  ok : Bool
  is : Bool
/-- The places of one or the other, rising. -/
def mgF : Nat → List (Int × Int) → List (Int × Int) → List (Int × Pr)
  | 0, _, _ => []
  | _ + 1, [], [] => []
  | n + 1, x :: xs, [] => (x.1, ⟨x.2, 0, true, false⟩) :: mgF n xs []
  | n + 1, [], y :: ys => (y.1, ⟨0, y.2, false, true⟩) :: mgF n [] ys
  | n + 1, x :: xs, y :: ys =>
    if x.1 < y.1 then (x.1, ⟨x.2, 0, true, false⟩) :: mgF n xs (y :: ys)
    else if y.1 < x.1 then (y.1, ⟨0, y.2, false, true⟩) :: mgF n (x :: xs) ys
    else (x.1, ⟨x.2, y.2, true, true⟩) :: mgF n xs ys
def mg (a b : List (Int × Int)) : List (Int × Pr) := mgF (a.length + b.length) a b
end
section
open Go.RowKit
attribute [local irreducible] FS FO IT HS

/-- The first error; the items. -/
def erM (c : Pr → Int × Bool × Int) (l : List (Int × Pr)) : Option Int := (l.find? fun p => decide ((c p.2).2.2 ≠ 0)).map fun p => (c p.2).2.2
def itM (c : Pr → Int × Bool × Int) (l : List (Int × Pr)) : List (Int × Int) := l.filterMap fun p => if (c p.2).2.1 = true then some (p.1, (c p.2).1) else none
def resM (c : Pr → Int × Bool × Int) (n1 : Int) (a : List (Int × Int)) (n2 : Int) (b : List (Int × Int)) : Int × List (Int × Int) × Int :=
  if n1 = n2 then match erM c (mg a b) with
    | some e => (0, [], e)
    | none => (n1, itM c (mg a b), 0)
  else (0, [], 4)
end
section
open Go.RowKit
attribute [local irreducible] FS FO IT HS

/-- The value of one of them. -/
def Pr.val (p : Pr) : Int := if p.ok = true then p.x else p.y
/-- A sum as a value, or an error. -/
def nrw (w : Int) : Int × Bool × Int := (if fits w = true then nar w else 0, fits w, if fits w = true then 0 else 12)
def unC (r : Int) (p : Pr) : Int × Bool × Int := if p.ok = true ∧ p.is = true then nrw (rAdd r p.x p.y) else (p.val, true, 0)
theorem mg_mem : ∀ (n : Nat) (a b : List (Int × Int)) (q : Int × Pr), q ∈ mgF n a b → (q.2.ok = true → (q.1, q.2.x) ∈ a) ∧ (q.2.is = true → (q.1, q.2.y) ∈ b) ∧ (q.2.ok = false → q.2.x = 0) ∧ (q.2.is = false → q.2.y = 0) ∧ (q.2.ok = true ∨ q.2.is = true)
  | 0, _, _, _, h => by simp [mgF] at h
  | _ + 1, [], [], _, h => by simp [mgF] at h
  | n + 1, x :: xs, [], q, h => by
    simp only [mgF, List.mem_cons] at h
    rcases h with rfl | h
    · simp
    · obtain ⟨h1, h2, h3⟩ := mg_mem n xs [] q h
      exact ⟨fun e => by simp [h1 e], h2, h3⟩
  | n + 1, [], y :: ys, q, h => by
    simp only [mgF, List.mem_cons] at h
    rcases h with rfl | h
    · simp
    · obtain ⟨h1, h2, h3⟩ := mg_mem n [] ys q h
      exact ⟨h1, fun e => by simp [h2 e], h3⟩
  | n + 1, x :: xs, y :: ys, q, h => by
    simp only [mgF] at h
    split at h
    · simp only [List.mem_cons] at h
      rcases h with rfl | h
      · simp
      · obtain ⟨h1, h2, h3⟩ := mg_mem n xs (y :: ys) q h
        exact ⟨fun e => by simp [h1 e], h2, h3⟩
    · split at h
      · simp only [List.mem_cons] at h
        rcases h with rfl | h
        · simp
        · obtain ⟨h1, h2, h3⟩ := mg_mem n (x :: xs) ys q h
          exact ⟨h1, fun e => by simp [h2 e], h3⟩
      · simp only [List.mem_cons] at h
        rcases h with rfl | h
        · have : x.1 = y.1 := by omega
          refine ⟨fun _ => List.mem_cons_self, fun _ => ?_, by simp, by simp, by simp⟩
          show (x.1, y.2) ∈ y :: ys
          rw [this]; exact List.mem_cons_self
        · obtain ⟨h1, h2, h3⟩ := mg_mem n xs ys q h
          exact ⟨fun e => by simp [h1 e], fun e => by simp [h2 e], h3⟩
theorem I0 : I64 0 := by unfold I64; omega
/-- A vector and an error. -/
def VE (r : Int × List (Int × Int) × Int) : SV := .tup [VC r.1 r.2.1, .int .i64 r.2.2]
def unR (r n1 : Int) (l1 : List (Int × Int)) (n2 : Int) (l2 : List (Int × Int)) : Int × List (Int × Int) × Int := if isR r = true then resM (unC r) (sn n1 l1) (sl n1 l1) (sn n2 l2) (sl n2 l2) else (0, [], 8)
theorem frz_its (l : List (Int × Int)) : List.take l.length (List.drop 0 (its l)) = its l := by
  rw [List.drop_zero, ← its_len, List.take_length]
end
section
open Go.RowKit
attribute [local irreducible] FS FO IT HS

/-- What is at a place. -/
def gt (l : List (Int × Int)) (at' : Int) : Option Int := (l.find? fun x => decide (x.1 = at')).map (·.2)
def gm (l : List (Int × Pr)) (at' : Int) : Option Pr := (l.find? fun x => decide (x.1 = at')).map (·.2)
theorem gt_nil (k : Int) : gt [] k = none := rfl
theorem gt_cons (x : Int × Int) (l : List (Int × Int)) (k : Int) : gt (x :: l) k = if x.1 = k then some x.2 else gt l k := by
  unfold gt
  rw [List.find?_cons]
  by_cases h : x.1 = k <;> simp [h]
theorem gm_cons (x : Int × Pr) (l : List (Int × Pr)) (k : Int) : gm (x :: l) k = if x.1 = k then some x.2 else gm l k := by
  unfold gm
  rw [List.find?_cons]
  by_cases h : x.1 = k <;> simp [h]
theorem Up.tail {x : Int × Int} {l : List (Int × Int)} (h : Up (x :: l)) : Up l := (List.pairwise_cons.1 h).2
theorem Up.head {x : Int × Int} {l : List (Int × Int)} (h : Up (x :: l)) : ∀ y ∈ l, x.1 < y.1 := (List.pairwise_cons.1 h).1
theorem gt_none {l : List (Int × Int)} {k : Int} (h : ∀ x ∈ l, x.1 ≠ k) : gt l k = none := by
  unfold gt
  rw [Option.map_eq_none_iff, List.find?_eq_none]
  intro x hx; simpa using h x hx
theorem gt_lt {l : List (Int × Int)} {k : Int} (h : ∀ x ∈ l, k < x.1) : gt l k = none := gt_none fun x hx => by have := h x hx; omega
theorem gt_some {l : List (Int × Int)} (hu : Up l) {x : Int × Int} (hx : x ∈ l) : gt l x.1 = some x.2 := by
  induction l with
  | nil => simp at hx
  | cons y l ih =>
    rw [gt_cons]
    rcases List.mem_cons.1 hx with rfl | hx
    · simp
    · have := hu.head x hx
      rw [if_neg (by omega)]; exact ih hu.tail hx
theorem gt_mem {l : List (Int × Int)} {k v : Int} (h : gt l k = some v) : (k, v) ∈ l := by
  unfold gt at h
  obtain ⟨x, hx, rfl⟩ := Option.map_eq_some_iff.1 h
  have h1 := List.find?_some hx
  simp at h1
  subst h1
  exact List.mem_of_find?_eq_some hx
/-- Two vectors that have the same at each place are the same. -/
theorem up_ext {l m : List (Int × Int)} (hl : Up l) (hm : Up m) (h : ∀ k, gt l k = gt m k) : l = m := by
  induction l generalizing m with
  | nil =>
    cases m with
    | nil => rfl
    | cons y m =>
      have := h y.1
      rw [gt_nil, gt_cons, if_pos rfl] at this
      cases this
  | cons x l ih =>
    cases m with
    | nil =>
      have := h x.1
      rw [gt_nil, gt_cons, if_pos rfl] at this
      cases this
    | cons y m =>
      have hxy : x.1 = y.1 := by
        rcases Int.lt_trichotomy x.1 y.1 with h' | h' | h'
        · have := h x.1
          rw [gt_cons, if_pos rfl, gt_cons, if_neg (by omega), gt_lt fun z hz => by have := hm.head z hz; omega] at this
          cases this
        · exact h'
        · have := h y.1
          rw [gt_cons, if_neg (by omega), gt_cons, if_pos rfl, gt_lt fun z hz => by have := hl.head z hz; omega] at this
          cases this
      have hv : x.2 = y.2 := by
        have := h x.1
        rw [gt_cons, if_pos rfl, gt_cons, if_pos hxy.symm] at this
        exact Option.some.inj this
      have ht : l = m := ih hl.tail hm.tail fun k => by
        have := h k
        rw [gt_cons, gt_cons, hxy] at this
        by_cases hk : y.1 = k
        · subst hk
          rw [gt_lt fun z hz => by have := hl.head z hz; omega, gt_lt fun z hz => by have := hm.head z hz; omega]
        · rwa [if_neg hk, if_neg hk] at this
      rw [ht, show x = y from Prod.ext hxy hv]

def prOf : Option Int → Option Int → Option Pr
  | none, none => none
  | some x, none => some ⟨x, 0, true, false⟩
  | none, some y => some ⟨0, y, false, true⟩
  | some x, some y => some ⟨x, y, true, true⟩
theorem gm_mgF : ∀ (n : Nat) (a b : List (Int × Int)), a.length + b.length ≤ n → Up a → Up b → ∀ k, gm (mgF n a b) k = prOf (gt a k) (gt b k)
  | 0, a, b, h, _, _, k => by
    have ha : a = [] := List.length_eq_zero_iff.1 (by omega)
    have hb : b = [] := List.length_eq_zero_iff.1 (by omega)
    subst ha hb; rfl
  | n + 1, [], [], _, _, _, k => rfl
  | n + 1, x :: xs, [], h, ha, hb, k => by
    simp only [mgF, gm_cons, gt_cons]
    rw [gm_mgF n xs [] (by simpa using h) ha.tail hb k]
    split
    · rw [gt_nil]; rfl
    · rfl
  | n + 1, [], y :: ys, h, ha, hb, k => by
    simp only [mgF, gm_cons, gt_cons]
    rw [gm_mgF n [] ys (by simpa using h) ha hb.tail k]
    split
    · rw [gt_nil]; rfl
    · rfl
  | n + 1, x :: xs, y :: ys, h, ha, hb, k => by
    simp only [List.length_cons] at h
    simp only [mgF]
    split
    · rename_i hlt
      rw [gm_cons, gm_mgF n xs (y :: ys) (by simp only [List.length_cons]; omega) ha.tail hb k, gt_cons x]
      split
      · rename_i hk
        rw [gt_lt (l := y :: ys) fun z hz => by
          rcases List.mem_cons.1 hz with rfl | hz
          · omega
          · have := hb.head z hz; omega]
        rfl
      · rfl
    · split
      · rename_i hlt
        rw [gm_cons, gm_mgF n (x :: xs) ys (by simp only [List.length_cons]; omega) ha hb.tail k, gt_cons y]
        split
        · rename_i hk
          rw [gt_lt (l := x :: xs) fun z hz => by
            rcases List.mem_cons.1 hz with rfl | hz
            · omega
            · have := ha.head z hz; omega]
          rfl
        · rfl
      · have hxy : x.1 = y.1 := by omega
        rw [gm_cons, gm_mgF n xs ys (by omega) ha.tail hb.tail k, gt_cons, gt_cons, ← hxy]
        split
        · rfl
        · rfl
theorem gm_mg {a b : List (Int × Int)} (ha : Up a) (hb : Up b) (k : Int) : gm (mg a b) k = prOf (gt a k) (gt b k) := gm_mgF _ a b (Nat.le_refl _) ha hb k

/-- The places rise. -/
def UpM (l : List (Int × Pr)) : Prop := l.Pairwise fun x y => x.1 < y.1
theorem mgF_lo : ∀ (n : Nat) (a b : List (Int × Int)) (k : Int), (∀ x ∈ a, k < x.1) → (∀ x ∈ b, k < x.1) → ∀ q ∈ mgF n a b, k < q.1 := by
  intro n a b k ha hb q hq
  obtain ⟨h1, h2, _, _, h5⟩ := mg_mem n a b q hq
  rcases h5 with h | h
  · exact ha _ (h1 h)
  · exact hb _ (h2 h)
theorem up_mgF : ∀ (n : Nat) (a b : List (Int × Int)), Up a → Up b → UpM (mgF n a b)
  | 0, _, _, _, _ => .nil
  | _ + 1, [], [], _, _ => .nil
  | n + 1, x :: xs, [], ha, hb => by
    simp only [mgF]
    exact List.pairwise_cons.2 ⟨mgF_lo n xs [] x.1 ha.head (by simp), up_mgF n xs [] ha.tail hb⟩
  | n + 1, [], y :: ys, ha, hb => by
    simp only [mgF]
    exact List.pairwise_cons.2 ⟨mgF_lo n [] ys y.1 (by simp) hb.head, up_mgF n [] ys ha hb.tail⟩
  | n + 1, x :: xs, y :: ys, ha, hb => by
    simp only [mgF]
    split
    · rename_i h
      exact List.pairwise_cons.2 ⟨mgF_lo n xs (y :: ys) x.1 ha.head (fun z hz => by
        rcases List.mem_cons.1 hz with rfl | hz
        · exact h
        · have := hb.head z hz; omega), up_mgF n xs _ ha.tail hb⟩
    · split
      · rename_i h
        exact List.pairwise_cons.2 ⟨mgF_lo n (x :: xs) ys y.1 (fun z hz => by
          rcases List.mem_cons.1 hz with rfl | hz
          · exact h
          · have := ha.head z hz; omega) hb.head, up_mgF n _ ys ha hb.tail⟩
      · have hxy : x.1 = y.1 := by omega
        exact List.pairwise_cons.2 ⟨mgF_lo n xs ys x.1 ha.head (fun z hz => by have := hb.head z hz; omega), up_mgF n xs ys ha.tail hb.tail⟩
theorem up_mg {a b : List (Int × Int)} (ha : Up a) (hb : Up b) : UpM (mg a b) := up_mgF _ a b ha hb

theorem itM_mem {c : Pr → Int × Bool × Int} {l : List (Int × Pr)} {x : Int × Int} (h : x ∈ itM c l) : ∃ q ∈ l, q.1 = x.1 ∧ (c q.2).2.1 = true ∧ x.2 = (c q.2).1 := by
  unfold itM at h
  obtain ⟨q, hq, h⟩ := List.mem_filterMap.1 h
  split at h
  · rename_i hc
    cases h
    exact ⟨q, hq, rfl, hc, rfl⟩
  · cases h
theorem up_itM {c : Pr → Int × Bool × Int} : ∀ {l : List (Int × Pr)}, UpM l → Up (itM c l)
  | [], _ => .nil
  | q :: l, h => by
    have h' := List.pairwise_cons.1 h
    have ih := up_itM (c := c) (l := l) h'.2
    unfold itM at ih ⊢
    rw [List.filterMap_cons]
    cases hc : (c q.2).2.1 with
    | false => simpa [hc] using ih
    | true =>
      simp only [if_true]
      refine List.pairwise_cons.2 ⟨fun x hx => ?_, ih⟩
      obtain ⟨q', hq', e1, _⟩ := itM_mem (c := c) hx
      have := h'.1 q' hq'
      simp only; omega
theorem gt_itM {c : Pr → Int × Bool × Int} : ∀ {l : List (Int × Pr)}, UpM l → ∀ k, gt (itM c l) k = (gm l k).bind fun p => if (c p).2.1 = true then some (c p).1 else none
  | [], _, k => rfl
  | q :: l, h, k => by
    have h' := List.pairwise_cons.1 h
    have ih := gt_itM (c := c) (l := l) h'.2 k
    rw [gm_cons]
    have e : itM c (q :: l) = (if (c q.2).2.1 = true then [(q.1, (c q.2).1)] else []) ++ itM c l := by
      unfold itM; rw [List.filterMap_cons]
      cases (c q.2).2.1 <;> simp
    rw [e]
    by_cases hk : q.1 = k
    · rw [if_pos hk]
      subst hk
      have hn : gt (itM c l) q.1 = none := gt_none fun x hx => by
        obtain ⟨q', hq', e1, _⟩ := itM_mem (c := c) hx
        have := h'.1 q' hq'
        omega
      cases hc : (c q.2).2.1 with
      | true => simp [gt_cons, hc]
      | false => simp [hc, hn]
    · rw [if_neg hk, ← ih]
      cases (c q.2).2.1 with
      | true => simp [gt_cons, hk]
      | false => simp
theorem gm_of_mem {l : List (Int × Pr)} (h : UpM l) {q : Int × Pr} (hq : q ∈ l) : gm l q.1 = some q.2 := by
  induction l with
  | nil => simp at hq
  | cons y l ih =>
    have h' := List.pairwise_cons.1 h
    rw [gm_cons]
    rcases List.mem_cons.1 hq with rfl | hq
    · simp
    · have := h'.1 q hq
      rw [if_neg (by omega)]; exact ih h'.2 hq
theorem gm_mem {l : List (Int × Pr)} {k : Int} {p : Pr} (h : gm l k = some p) : (k, p) ∈ l := by
  unfold gm at h
  obtain ⟨x, hx, rfl⟩ := Option.map_eq_some_iff.1 h
  have h1 := List.find?_some hx
  simp at h1
  subst h1
  exact List.mem_of_find?_eq_some hx

/-- Where the only error is e. -/
theorem erM_none {c : Pr → Int × Bool × Int} {l : List (Int × Pr)} (h : ∀ q ∈ l, (c q.2).2.2 = 0) : erM c l = none := by
  unfold erM
  rw [Option.map_eq_none_iff, List.find?_eq_none]
  intro q hq; simpa using h q hq
theorem erM_some {c : Pr → Int × Bool × Int} {l : List (Int × Pr)} {e : Int} (he : ∀ q ∈ l, (c q.2).2.2 = 0 ∨ (c q.2).2.2 = e) (h : ∃ q ∈ l, (c q.2).2.2 ≠ 0) : erM c l = some e := by
  obtain ⟨q, hq, hne⟩ := h
  unfold erM
  cases hf : l.find? fun p => decide ((c p.2).2.2 ≠ 0) with
  | none =>
    rw [List.find?_eq_none] at hf
    have := hf q hq
    simp at this
    exact absurd this hne
  | some p =>
    have h1 := List.find?_some hf
    have h2 := List.mem_of_find?_eq_some hf
    simp at h1
    rcases he p h2 with h | h
    · exact absurd h h1
    · simp [h]
end
end Go.Proofs.Ytlbmjnammgffiaa
