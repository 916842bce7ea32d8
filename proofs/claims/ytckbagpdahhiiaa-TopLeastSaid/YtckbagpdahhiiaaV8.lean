/- Two sparse vectors: the program's answers are the document's. In plain words. The laws on two sparse vectors: what they call. -/
import Derived.Test.YtckbagpdahhiiaaV7
namespace Go.Proofs.Ytckbagpdahhiiaa
section
open Go.RowKit
attribute [local irreducible] FS FO IT HS

/-- A vector that can be. -/
structure OkV (n : Int) (l : List (Int × Int)) : Prop where
  n0 : 0 ≤ n
  n1 : n ≤ 4096
  up : Up l
  lo : ∀ x ∈ l, 0 ≤ x.1 ∧ x.1 < n
theorem okV (n : Int) (l : List (Int × Int)) : OkV (sn n l) (sl n l) := ⟨(sn_le n l).1, (sn_le n l).2, (sl_up n l).1, (sl_up n l).2⟩
theorem ups_of {n : Int} : ∀ {l : List (Int × Int)} {k : Int}, Up l → (∀ x ∈ l, k < x.1 ∧ x.1 < n) → ups n k l = true
  | [], _, _, _ => rfl
  | x :: xs, k, h, hk => by
    have h1 := hk x (by simp)
    simp only [ups, Bool.and_eq_true]
    refine ⟨?_, ups_of h.tail fun y hy => ⟨h.head y hy, (hk y (by simp [hy])).2⟩⟩
    rw [decide_eq_false (by omega), decide_eq_false (by omega)]; rfl
theorem OkV.isV {n : Int} {l : List (Int × Int)} (h : OkV n l) : isV n l = true := by
  unfold Go.Proofs.Ytckbagpdahhiiaa.isV
  rw [decide_eq_true h.n0, decide_eq_true h.n1, ups_of h.up fun x hx => by have := h.lo x hx; omega]; rfl
theorem OkV.sn {n : Int} {l : List (Int × Int)} (h : OkV n l) : sn n l = n := if_pos h.isV
theorem OkV.sl {n : Int} {l : List (Int × Int)} (h : OkV n l) : sl n l = l := if_pos h.isV
theorem OkV.out {n : Int} {l : List (Int × Int)} (h : OkV n l) {k : Int} (hk : ¬ (0 ≤ k ∧ k < n)) : gt l k = none := gt_none fun x hx e => hk (e ▸ h.lo x hx)
theorem OkV.at {n : Int} {l : List (Int × Int)} (h : OkV n l) {k v : Int} (hk : gt l k = some v) : 0 ≤ k ∧ k < n := h.lo _ (gt_mem hk)

/-- Items made of items, each at its place. -/
theorem up_fm {f : Int × Int → Option (Int × Int)} (hf : ∀ x y, f x = some y → y.1 = x.1) : ∀ {l : List (Int × Int)}, Up l → Up (l.filterMap f)
  | [], _ => .nil
  | x :: xs, h => by
    rw [List.filterMap_cons]
    have ih := up_fm hf h.tail
    cases hx : f x with
    | none => exact ih
    | some y =>
      refine List.pairwise_cons.2 ⟨fun z hz => ?_, ih⟩
      obtain ⟨w, hw, hz⟩ := List.mem_filterMap.1 hz
      rw [hf x y hx, hf w z hz]; exact h.head w hw
theorem gt_fm {f : Int × Int → Option (Int × Int)} (hf : ∀ x y, f x = some y → y.1 = x.1) : ∀ {l : List (Int × Int)}, Up l → ∀ k, gt (l.filterMap f) k = (gt l k).bind fun v => (f (k, v)).map (·.2)
  | [], _, k => rfl
  | x :: xs, h, k => by
    rw [List.filterMap_cons, gt_cons]
    have ih := gt_fm hf h.tail k
    have hn : x.1 = k → gt (xs.filterMap f) k = none := fun e => gt_none fun z hz => by
      obtain ⟨w, hw, hz⟩ := List.mem_filterMap.1 hz
      have := h.head w hw
      rw [hf w z hz]; omega
    have hx' : x.1 = k → (k, x.2) = x := fun e => by rw [← e]
    cases hx : f x with
    | none =>
      by_cases hk : x.1 = k
      · rw [if_pos hk, Option.bind_some, hx' hk, hx]; simpa using hn hk
      · rw [if_neg hk]; exact ih
    | some y =>
      simp only []
      rw [gt_cons, hf x y hx]
      by_cases hk : x.1 = k
      · rw [if_pos hk, if_pos hk, Option.bind_some, hx' hk, hx]; rfl
      · rw [if_neg hk, if_neg hk]; exact ih
/-- A table of places. -/
def tabL (g : Int → Option Int) (m : Nat) : List (Int × Int) := (List.range m).filterMap fun (i : Nat) => (g (i : Int)).map fun v => ((i : Int), v)
theorem tabL_succ (g : Int → Option Int) (m : Nat) : tabL g (m + 1) = tabL g m ++ ((g (m : Int)).map fun v => ((m : Int), v)).toList := by
  unfold tabL
  rw [List.range_succ, List.filterMap_append]
  congr 1
theorem tabL_mem {g : Int → Option Int} {m : Nat} {x : Int × Int} (h : x ∈ tabL g m) : 0 ≤ x.1 ∧ x.1 < m ∧ g x.1 = some x.2 := by
  obtain ⟨i, hi, h⟩ := List.mem_filterMap.1 h
  obtain ⟨v, hv, rfl⟩ := Option.map_eq_some_iff.1 h
  have := List.mem_range.1 hi
  exact ⟨by simp, by simp; omega, hv⟩
theorem up_tabL (g : Int → Option Int) : ∀ m, Up (tabL g m)
  | 0 => .nil
  | m + 1 => by
    rw [tabL_succ]
    refine List.pairwise_append.2 ⟨up_tabL g m, ?_, fun x hx y hy => ?_⟩
    · cases g (m : Int) <;> simp
    · have := (tabL_mem hx).2.1
      cases hg : g (m : Int) with
      | none => rw [hg] at hy; simp at hy
      | some v => rw [hg] at hy; simp at hy; subst hy; exact this
theorem gt_append {l m : List (Int × Int)} (k : Int) : gt (l ++ m) k = (gt l k).or (gt m k) := by
  unfold gt
  rw [List.find?_append]
  cases l.find? fun x => decide (x.1 = k) <;> simp
theorem gt_tabL (g : Int → Option Int) : ∀ (m : Nat) (k : Int), gt (tabL g m) k = if 0 ≤ k ∧ k < m then g k else none
  | 0, k => by rw [if_neg (by omega)]; rfl
  | m + 1, k => by
    rw [tabL_succ, gt_append, gt_tabL g m k]
    by_cases h : 0 ≤ k ∧ k < m
    · rw [if_pos h, if_pos (by omega)]
      cases hg : g k with
      | some v => rfl
      | none =>
        rw [Option.none_or]
        cases hm : g (m : Int) with
        | none => rfl
        | some v =>
          show gt [((m : Int), v)] k = none
          rw [gt_cons, if_neg (by show (m : Int) ≠ k; omega)]; rfl
    · rw [if_neg h, Option.none_or]
      by_cases h' : k = m
      · subst h'
        rw [if_pos (by omega)]
        cases hm : g (m : Int) with
        | none => rfl
        | some v => show gt [((m : Int), v)] (m : Int) = some v; rw [gt_cons, if_pos rfl]
      · rw [if_neg (by omega)]
        cases hm : g (m : Int) with
        | none => rfl
        | some v => show gt [((m : Int), v)] k = none; rw [gt_cons, if_neg (by show (m : Int) ≠ k; omega)]; rfl
theorem gt_map_snd (x : Option Int) (k : Int) : (x.map fun v => (k, v)).map (·.2) = x := by cases x <;> rfl

section
variable {n : Int} {a b : List (Int × Int)} (ha : OkV n a) (hb : OkV n b)
include ha hb

/-- What comes of two: an error where it is one; else place by place. -/
theorem resM_err {c : Pr → Int × Bool × Int} {e : Int} (_he0 : e ≠ 0) (he : ∀ p, (c p).2.2 = 0 ∨ (c p).2.2 = e) (E : Option Int → Option Int → Bool) (hE : ∀ x y p, prOf x y = some p → ((c p).2.2 ≠ 0 ↔ E x y = true)) (hE0 : E none none = false) :
    resM c n a n b = if (List.range n.toNat).any (fun (i : Nat) => E (gt a (i : Int)) (gt b (i : Int))) = true then (0, [], e) else (n, itM c (mg a b), 0) := by
  unfold resM
  rw [if_pos rfl]
  have hum := up_mg ha.up hb.up
  cases hany : (List.range n.toNat).any (fun (i : Nat) => E (gt a (i : Int)) (gt b (i : Int))) with
  | true =>
    obtain ⟨i, hi, hEi⟩ := List.any_eq_true.1 hany
    have hg := gm_mg ha.up hb.up (i : Int)
    cases hp : prOf (gt a (i : Int)) (gt b (i : Int)) with
    | none =>
      exfalso
      cases hx : gt a (i : Int) <;> cases hy : gt b (i : Int) <;> rw [hx, hy] at hp hEi <;> simp [prOf] at hp
      rw [hE0] at hEi; cases hEi
    | some p =>
      rw [hp] at hg
      rw [erM_some (e := e) (fun q _ => he q.2) ⟨_, gm_mem hg, (hE _ _ p hp).2 hEi⟩]
      rfl
  | false =>
    rw [any_lt] at hany
    rw [erM_none fun q hq => ?_]
    · rfl
    · have hg := gm_mg ha.up hb.up q.1
      rw [gm_of_mem hum hq] at hg
      refine Classical.byContradiction fun hne => ?_
      have h1 := (hE _ _ q.2 hg.symm).1 hne
      have hr : 0 ≤ q.1 ∧ q.1 < n := by
        obtain ⟨h2, h3, _, _, h5⟩ := mg_mem _ _ _ _ hq
        rcases h5 with h | h
        · exact ha.lo _ (h2 h)
        · exact hb.lo _ (h3 h)
      have h4 := hany q.1.toNat (by omega)
      rw [show ((q.1.toNat : Nat) : Int) = q.1 by omega, h1] at h4
      cases h4

omit ha hb in
theorem resM_ok {c : Pr → Int × Bool × Int} (he : ∀ p, (c p).2.2 = 0) : resM c n a n b = (n, itM c (mg a b), 0) := by
  unfold resM
  rw [if_pos rfl, erM_none fun q _ => he q.2]

theorem gt_of_itM {c : Pr → Int × Bool × Int} (k : Int) : gt (itM c (mg a b)) k = (prOf (gt a k) (gt b k)).bind fun p => if (c p).2.1 = true then some (c p).1 else none := by
  rw [gt_itM (up_mg ha.up hb.up), gm_mg ha.up hb.up]

theorem itM_tab {c : Pr → Int × Bool × Int} {g : Int → Option Int} (h : ∀ k, 0 ≤ k → k < n → ((prOf (gt a k) (gt b k)).bind fun p => if (c p).2.1 = true then some (c p).1 else none) = g k) : itM c (mg a b) = tabL g n.toNat := by
  refine up_ext (up_itM (up_mg ha.up hb.up)) (up_tabL _ _) fun k => ?_
  rw [gt_of_itM ha hb, gt_tabL]
  by_cases hk : 0 ≤ k ∧ k < n
  · rw [if_pos (by have := ha.n0; omega), h k hk.1 hk.2]
  · rw [if_neg (by have := ha.n0; omega), ha.out hk, hb.out hk]; rfl

theorem un_eq {r : Int} : resM (unC r) n a n b = if (List.range n.toNat).any (fun (i : Nat) => uE r (gt a (i : Int)) (gt b (i : Int))) = true then (0, [], 12) else (n, ruL r a b n.toNat, 0) := by
  rw [resM_err ha hb (e := 12) (by omega) (fun p => ?_) (uE r) (fun x y p hp => ?_) rfl]
  · cases hany : (List.range n.toNat).any (fun (i : Nat) => uE r (gt a (i : Int)) (gt b (i : Int))) with
    | true => rfl
    | false =>
      rw [any_lt] at hany
      simp only [Bool.false_eq_true, if_false]
      rw [itM_tab ha hb (g := fun k => uV r (gt a k) (gt b k)) fun k h0 h1 => ?_]
      · rfl
      · have h2 := hany k.toNat (by omega)
        rw [show ((k.toNat : Nat) : Int) = k by omega] at h2
        cases hx : gt a k <;> cases hy : gt b k <;> rw [hx, hy] at h2 <;> simp [prOf, unC, uV, Pr.val]
        simp only [uE, Bool.not_eq_false'] at h2
        simp [nrw, h2]
  · unfold unC
    split
    · unfold nrw; simp only []; split <;> simp
    · exact .inl rfl
  · cases x <;> cases y <;> simp [prOf] at hp <;> subst hp <;> simp [unC, uE, nrw]

theorem me_eq {r : Int} : resM (meC r) n a n b = if a.any (mE r b) = true then (0, [], 12) else (n, a.filterMap (mV r b), 0) := by
  rw [resM_err ha hb (e := 12) (by omega) (fun p => ?_) (fun x y => match x, y with | some x, some y => !fits (rMul r x y) | _, _ => false) (fun x y p hp => ?_) rfl]
  · have e : ((List.range n.toNat).any fun (i : Nat) => match gt a (i : Int), gt b (i : Int) with | some x, some y => !fits (rMul r x y) | _, _ => false) = a.any (mE r b) := by
      rw [Bool.eq_iff_iff, List.any_eq_true, List.any_eq_true]
      constructor
      · rintro ⟨i, _, h⟩
        cases hx : gt a (i : Int) with
        | none => rw [hx] at h; cases h
        | some x =>
          rw [hx] at h
          refine ⟨_, gt_mem hx, ?_⟩
          unfold mE
          cases hy : gt b (i : Int) with
          | none => rw [hy] at h; cases h
          | some y => rw [hy] at h; exact h
      · rintro ⟨x, hx, h⟩
        have hr := ha.lo x hx
        refine ⟨x.1.toNat, List.mem_range.2 (by omega), ?_⟩
        rw [show ((x.1.toNat : Nat) : Int) = x.1 by omega, gt_some ha.up hx]
        unfold mE at h
        cases hy : gt b x.1 with
        | none => rw [hy] at h; cases h
        | some y => rw [hy] at h; exact h
    rw [e]
    cases hany : a.any (mE r b) with
    | true => rfl
    | false =>
      simp only [Bool.false_eq_true, if_false]
      congr 2
      have hpl : ∀ x y, mV r b x = some y → y.1 = x.1 := fun x y h => by
        unfold mV at h
        split at h
        · cases h
        · cases h; rfl
      refine up_ext (up_itM (up_mg ha.up hb.up)) (up_fm hpl ha.up) fun k => ?_
      rw [gt_of_itM ha hb, gt_fm hpl ha.up]
      cases hx : gt a k with
      | none => cases hy : gt b k <;> simp [prOf, meC]
      | some x =>
        cases hy : gt b k with
        | none => simp [prOf, meC, mV, hy]
        | some y =>
          have hf : fits (rMul r x y) = true := by
            have := List.any_eq_false.1 hany _ (gt_mem hx)
            unfold mE at this
            simpa [hy] using this
          simp [prOf, meC, mV, hy, nrw, hf]
  · unfold meC
    split
    · unfold nrw; simp only []; split <;> simp
    · exact .inl rfl
  · cases x <;> cases y <;> simp [prOf] at hp <;> subst hp <;> simp [meC, nrw]

theorem be_eq : resM beC n a n b = (n, a.filter (bB b), 0) := by
  rw [resM_ok fun p => rfl]
  congr 2
  have e : a.filter (bB b) = a.filterMap fun x => if bB b x = true then some x else none := by
    rw [← List.filterMap_eq_filter]
    congr 1
  have hpl : ∀ x y : Int × Int, (if bB b x = true then some x else none) = some y → y.1 = x.1 := fun x y h => by
    split at h
    · cases h; rfl
    · cases h
  rw [e]
  refine up_ext (up_itM (up_mg ha.up hb.up)) (up_fm hpl ha.up) fun k => ?_
  rw [gt_of_itM ha hb, gt_fm hpl ha.up]
  cases hx : gt a k with
  | none => cases hy : gt b k <;> simp [prOf, beC]
  | some x =>
    cases hy : gt b k with
    | none => simp [prOf, beC, bB, hy]
    | some y =>
      by_cases h : x < y <;> simp [prOf, beC, bB, hy, h]

/-- One over the other. -/
def ovG (x y : Option Int) : Option Int := match y with
  | some y => some y
  | none => x
omit ha hb in
theorem ov_gt {_m : Nat} {a b : List (Int × Int)} (ha : OkV n a) (hb : OkV n b) : itM ovC (mg b a) = tabL (fun k => ovG (gt a k) (gt b k)) n.toNat := by
  refine itM_tab hb ha fun k h0 h1 => ?_
  cases hx : gt a k <;> cases hy : gt b k <;> simp [prOf, ovC, Pr.val, ovG]
end

/-! ### What is put -/

def putI (p v : Int) : List (Int × Int) → List (Int × Int)
  | [] => [(p, v)]
  | x :: xs => if p ≤ x.1 then (p, v) :: (x :: xs).filter (fun y => decide (y.1 ≠ p)) else x :: putI p v xs
theorem fold_true (p v : Int) : ∀ (l o : List (Int × Int)), l.foldl (pStep p v) (o, true) = (o ++ l.filter (fun y => decide (y.1 ≠ p)), true)
  | [], o => by simp
  | x :: l, o => by
    rw [List.foldl_cons]
    by_cases h : x.1 = p
    · rw [pStep_e h, fold_true p v l]; simp [h]
    · rw [pStep_d h, fold_true p v l]; simp [h]
theorem fold_false (p v : Int) : ∀ (l o : List (Int × Int)), pEnd p v (l.foldl (pStep p v) (o, false)) = o ++ putI p v l
  | [], o => by simp [pEnd, putI]
  | x :: l, o => by
    rw [List.foldl_cons, putI]
    by_cases h : p ≤ x.1
    · rw [if_pos h]
      by_cases h' : x.1 = p
      · rw [pStep_b h', fold_true]; simp [pEnd, h']
      · rw [pStep_a h h', fold_true]; simp [pEnd, h']
    · rw [if_neg h, pStep_c h, fold_false p v l]; simp
theorem putR_in {n p v : Int} {l : List (Int × Int)} (h : 0 ≤ p ∧ p < n) : putR n l p v = putI p v l := by
  unfold putR
  rw [decide_eq_false (by omega), decide_eq_false (by omega)]
  exact (fold_false p v l []).trans (List.nil_append _)
theorem putR_out {n p v : Int} {l : List (Int × Int)} (h : ¬ (0 ≤ p ∧ p < n)) (hl : ∀ x ∈ l, 0 ≤ x.1 ∧ x.1 < n) : putR n l p v = l := by
  unfold putR
  have : (decide (p < 0) || decide (n ≤ p)) = true := by rw [Bool.or_eq_true, decide_eq_true_eq, decide_eq_true_eq]; omega
  rw [this, fold_true]
  simp only [pEnd, if_true, List.nil_append]
  rw [List.filter_eq_self]
  intro x hx
  have := hl x hx
  simp; omega
theorem putI_mem {p v : Int} : ∀ {l : List (Int × Int)} {x : Int × Int}, x ∈ putI p v l → x = (p, v) ∨ x ∈ l
  | [], x, h => by simpa [putI] using h
  | y :: l, x, h => by
    unfold putI at h
    split at h
    · rcases List.mem_cons.1 h with h | h
      · exact .inl h
      · exact .inr (List.mem_filter.1 h).1
    · rcases List.mem_cons.1 h with h | h
      · exact .inr (by simp [h])
      · exact (putI_mem h).imp id fun h => by simp [h]
theorem up_putI {p v : Int} : ∀ {l : List (Int × Int)}, Up l → Up (putI p v l)
  | [], _ => by simp [putI, Up]
  | y :: l, h => by
    unfold putI
    split
    · rename_i hp
      refine List.pairwise_cons.2 ⟨fun x hx => ?_, List.Pairwise.sublist List.filter_sublist h⟩
      obtain ⟨hx, hne⟩ := List.mem_filter.1 hx
      have hne : x.1 ≠ p := by simpa using hne
      rcases List.mem_cons.1 hx with rfl | hx
      · show p < x.1; omega
      · have := h.head x hx; show p < x.1; omega
    · rename_i hp
      refine List.pairwise_cons.2 ⟨fun x hx => ?_, up_putI h.tail⟩
      rcases putI_mem hx with rfl | hx
      · show y.1 < p; omega
      · exact h.head x hx
theorem gt_filter_ne {p : Int} {l : List (Int × Int)} {k : Int} : gt (l.filter fun y => decide (y.1 ≠ p)) k = if k = p then none else gt l k := by
  induction l with
  | nil => simp [gt_nil]
  | cons x l ih =>
    rw [List.filter_cons, gt_cons]
    by_cases h : x.1 = p
    · rw [if_neg (by simp [h]), ih]
      by_cases hk : k = p
      · rw [if_pos hk, if_pos hk]
      · rw [if_neg hk, if_neg hk, if_neg (by omega)]
    · rw [if_pos (by simp [h]), gt_cons, ih]
      by_cases hx : x.1 = k
      · rw [if_pos hx, if_pos hx, if_neg (by omega)]
      · rw [if_neg hx, if_neg hx]
theorem gt_putI {p v : Int} : ∀ {l : List (Int × Int)}, Up l → ∀ k, gt (putI p v l) k = if k = p then some v else gt l k
  | [], _, k => by
    unfold putI
    rw [gt_cons]
    by_cases h : k = p
    · rw [if_pos h.symm, if_pos h]
    · rw [if_neg (fun e => h e.symm), if_neg h]
  | y :: l, h, k => by
    unfold putI
    split
    · rename_i hp
      rw [gt_cons, gt_filter_ne]
      by_cases hk : k = p
      · rw [if_pos hk.symm, if_pos hk]
      · rw [if_neg (fun e => hk e.symm), if_neg hk, if_neg hk]
    · rename_i hp
      rw [gt_cons, gt_putI h.tail k, gt_cons]
      by_cases hy : y.1 = k
      · rw [if_pos hy, if_pos hy, if_neg (by omega)]
      · rw [if_neg hy, if_neg hy]
theorem OkV.put {n p v : Int} {l : List (Int × Int)} (h : OkV n l) : OkV n (putR n l p v) := by
  by_cases hp : 0 ≤ p ∧ p < n
  · rw [putR_in hp]
    refine ⟨h.n0, h.n1, up_putI h.up, fun x hx => ?_⟩
    rcases putI_mem hx with rfl | hx
    · exact hp
    · exact h.lo x hx
  · rw [putR_out hp h.lo]; exact h
theorem gt_putR {n p v : Int} {l : List (Int × Int)} (h : OkV n l) (k : Int) : gt (putR n l p v) k = if k = p ∧ 0 ≤ p ∧ p < n then some v else gt l k := by
  by_cases hp : 0 ≤ p ∧ p < n
  · rw [putR_in hp, gt_putI h.up]
    by_cases hk : k = p
    · rw [if_pos hk, if_pos ⟨hk, hp⟩]
    · rw [if_neg hk, if_neg (fun e => hk e.1)]
  · rw [putR_out hp h.lo, if_neg (fun e => hp e.2)]

theorem fold_over {n : Int} : ∀ (b m : List (Int × Int)), OkV n m → Up b → (∀ x ∈ b, 0 ≤ x.1 ∧ x.1 < n) → ∃ m', b.foldl oStep (n, m) = (n, m') ∧ OkV n m' ∧ ∀ k, gt m' k = ovG (gt m k) (gt b k)
  | [], m, h, _, _ => ⟨m, rfl, h, fun k => rfl⟩
  | x :: b, m, h, hu, hb => by
    have h1 : oStep (n, m) x = (n, putR n m x.1 x.2) := by unfold oStep; simp only []; rw [h.sn, h.sl]
    obtain ⟨m', e, ok, hg⟩ := fold_over b _ (h.put (p := x.1) (v := x.2)) hu.tail fun y hy => hb y (by simp [hy])
    refine ⟨m', by rw [List.foldl_cons, h1, e], ok, fun k => ?_⟩
    rw [hg, gt_putR h, gt_cons]
    have hx := hb x (by simp)
    by_cases hk : x.1 = k
    · rw [if_pos hk, if_pos ⟨hk.symm, hx⟩, gt_lt fun z hz => by have := hu.head z hz; omega]; rfl
    · rw [if_neg hk, if_neg (fun e => hk e.1.symm)]
theorem ro_eq {n1 n2 : Int} {a b : List (Int × Int)} (ha : OkV n1 a) (hb : OkV n2 b) : roR n1 a n2 b = resM ovC n2 b n1 a := by
  unfold roR
  by_cases hn : n1 = n2
  · subst hn
    rw [if_pos rfl, resM_ok fun p => rfl]
    obtain ⟨m, e, ok, hg⟩ := fold_over b a ha hb.up hb.lo
    rw [e]
    congr 2
    refine up_ext ok.up (up_itM (up_mg hb.up ha.up)) fun k => ?_
    rw [hg, gt_of_itM hb ha]
    cases hx : gt a k <;> cases hy : gt b k <;> simp [prOf, ovC, Pr.val, ovG]
  · rw [if_neg hn]; unfold resM; rw [if_neg (fun e => hn e.symm)]

theorem unR_eq (r n1 : Int) (l1 : List (Int × Int)) (n2 : Int) (l2 : List (Int × Int)) : unR r n1 l1 n2 l2 = ruR r (sn n1 l1) (sl n1 l1) (sn n2 l2) (sl n2 l2) := by
  unfold unR ruR
  have ha := okV n1 l1
  have hb := okV n2 l2
  generalize sn n1 l1 = N1 at *
  generalize sn n2 l2 = N2 at *
  by_cases hn : N1 = N2
  · subst hn; rw [un_eq ha hb, if_pos rfl]
  · unfold resM; rw [if_neg hn, if_neg hn]
theorem meR_eq (r n1 : Int) (l1 : List (Int × Int)) (n2 : Int) (l2 : List (Int × Int)) : meR r n1 l1 n2 l2 = rmR r (sn n1 l1) (sl n1 l1) (sn n2 l2) (sl n2 l2) := by
  unfold meR rmR
  have ha := okV n1 l1
  have hb := okV n2 l2
  generalize sn n1 l1 = N1 at *
  generalize sn n2 l2 = N2 at *
  by_cases hn : N1 = N2
  · subst hn; rw [me_eq ha hb, if_pos rfl]
  · unfold resM; rw [if_neg hn, if_neg hn]
theorem beR_eq (n1 : Int) (l1 : List (Int × Int)) (n2 : Int) (l2 : List (Int × Int)) : beR n1 l1 n2 l2 = rbR (sn n1 l1) (sl n1 l1) (sn n2 l2) (sl n2 l2) := by
  unfold beR rbR
  have ha := okV n1 l1
  have hb := okV n2 l2
  generalize sn n1 l1 = N1 at *
  generalize sn n2 l2 = N2 at *
  by_cases hn : N1 = N2
  · subst hn; rw [be_eq ha hb, if_pos rfl]
  · unfold resM; rw [if_neg hn, if_neg hn]
theorem ovR_eq (n1 : Int) (l1 : List (Int × Int)) (n2 : Int) (l2 : List (Int × Int)) : ovR n1 l1 n2 l2 = roR (sn n1 l1) (sl n1 l1) (sn n2 l2) (sl n2 l2) := (ro_eq (okV n1 l1) (okV n2 l2)).symm
end
section
open Go.RowKit
attribute [local irreducible] FS FO IT HS

def ir_fretworklaw09_Few : IR :=
(.seq
 (.reg (⟨(some 1), .bx (.t 0), none⟩ ::
   ⟨(some 2), .al [.int .i64 0, .nils], none⟩ ::
   []))
 (.seq
  (.seq
   (.reg (⟨(some 3), .fa 1 (.t 1), none⟩ ::
     ⟨(some 4), .ld 1 false (.t 3), none⟩ ::
     ⟨(some 5), .ln (.t 4), none⟩ ::
     ⟨(some 6), .bin .gtr (.t 5) (.c (.int .i64 60)), none⟩ ::
     []))
   (.cond (.t 6)
    (.reg (⟨(some 7), .fa 1 (.t 1), none⟩ ::
      ⟨(some 8), .ld 1 false (.t 7), none⟩ ::
      ⟨(some 9), .sl 2 (.t 8) none (some (.c (.int .i64 60))) none, none⟩ ::
      ⟨(some 10), .fa 1 (.t 1), none⟩ ::
      ⟨none, .st 1 (.t 10) (.t 9), none⟩ ::
      []))
    .skip))
  (.seq
   (.reg (⟨(some 11), .ld 2 true (.t 1), none⟩ ::
     ⟨none, .st 2 (.t 2) (.t 11), none⟩ ::
     []))
   .ret)))
theorem cd_fretworklaw09_Few : Code1 Try.prog 16 12 ir_fretworklaw09_Few [.c 2 true 2] := ⟨Try.call16, _, _, Try.func16, rfl, by kernel_rfl, by kernel_rfl, by kernel_rfl, by kernel_rfl⟩

theorem fs_Few (n : Int) (l : List (Int × Int)) : FS Try.prog 16 [VC n l] (VC n (l.take 60)) := by
  refine fs_of_cvc mixed cd_fretworklaw09_Few (by simp) ?_
  have hl := its_len l
  repeat' (conv => whnf); first
    | ((refine Br.beq (by rfl) ?_))
    | ((refine Br.bne (by rfl) ?_))
    | (refine Br.tt ?_)
    | (refine Br.ff ?_)
    | (refine Br.dec (fun h => ?_) (fun h => ?_)) <;> try (exfalso; omega)
    | (refine Br.neg ?_)
    | (refine Br.mk (fun h => ?_) (fun h => ?_))
    | (refine And.intro rfl ?_)
    | (refine And.intro (by omega) ?_)
    | (refine ⟨_, Or.inl ⟨⟨by omega, by omega⟩, rfl⟩, ?_⟩)
    | (refine And.intro (by simp only [lens_all]; first | done | omega) ?_)
    | (refine And.intro (Nat.le_refl _) ?_)
    | fail
  · conv => whnf
    show SV.agg [.int .i64 n, .slc 2 (List.drop 0 (List.take 60 (its l)))] = VC n (l.take 60)
    rw [List.drop_zero, its_take]; rfl
  · conv => whnf
    rw [List.take_of_length_le (by omega)]; rfl

theorem IbL (l : List (Int × Int)) (h : (l.all fun x => decide (-9223372036854775808 ≤ x.1) && decide (x.1 ≤ 9223372036854775807) && decide (-9223372036854775808 ≤ x.2) && decide (x.2 ≤ 9223372036854775807)) = true) : Ib l := fun x hx => by
  have := List.all_eq_true.1 h x hx
  simp at this
  unfold I64; omega

def ir_fretworklaw11_live : IR :=
(.seq
 (.reg (⟨(some 0), .mv (.c (.bool false)), none⟩ ::
   []))
 (.seq
  (.reg (⟨(some 13), .bld [.int .i64 0, .int .i64 0] [(0, 1, (.c (.int .i64 1))), (1, 1, (.c (.int .i64 5)))], none⟩ ::
    ⟨(some 14), .bsl 1 2 [.int .i64 0, .int .i64 0] [(0, (.t 13))], none⟩ ::
    ⟨(some 15), .bld [.int .i64 0, .nils] [(0, 1, (.c (.int .i64 3))), (1, 1, (.t 14))], none⟩ ::
    ⟨(some 1), .al [.int .i64 0, .nils], none⟩ ::
    ⟨none, .st 2 (.t 1) (.t 15), none⟩ ::
    []))
  (.seq
   (.reg (⟨(some 16), .bld [.int .i64 0, .int .i64 0] [(0, 1, (.c (.int .i64 1))), (1, 1, (.c (.int .i64 3)))], none⟩ ::
     ⟨(some 17), .bld [.int .i64 0, .int .i64 0] [(0, 1, (.c (.int .i64 2))), (1, 1, (.c (.int .i64 4)))], none⟩ ::
     ⟨(some 18), .bsl 2 2 [.int .i64 0, .int .i64 0] [(0, (.t 16)), (1, (.t 17))], none⟩ ::
     ⟨(some 19), .bld [.int .i64 0, .nils] [(0, 1, (.c (.int .i64 3))), (1, 1, (.t 18))], none⟩ ::
     ⟨(some 2), .al [.int .i64 0, .nils], none⟩ ::
     ⟨none, .st 2 (.t 2) (.t 19), none⟩ ::
     []))
   (.seq
    (.reg (⟨(some 21), .ld 2 true (.t 1), none⟩ ::
      ⟨(some 22), .ld 2 true (.t 2), none⟩ ::
      ⟨(some 23), .call (.c (.fn 18 [])) [(.c (.int .i64 1)), (.t 21), (.t 22)], none⟩ ::
      ⟨(some 20), .mv (.t 23), none⟩ ::
      ⟨(some 24), .ex 0 (.t 20), none⟩ ::
      ⟨(some 25), .ex 1 (.t 20), none⟩ ::
      ⟨(some 3), .al [.int .i64 0, .nils], none⟩ ::
      ⟨none, .st 2 (.t 3) (.t 24), none⟩ ::
      ⟨(some 4), .mv (.t 25), none⟩ ::
      []))
    (.seq
     (.reg (⟨(some 27), .ld 2 true (.t 1), none⟩ ::
       ⟨(some 28), .ld 2 true (.t 2), none⟩ ::
       ⟨(some 29), .call (.c (.fn 20 [])) [(.c (.int .i64 5)), (.t 27), (.t 28)], none⟩ ::
       ⟨(some 26), .mv (.t 29), none⟩ ::
       ⟨(some 30), .ex 0 (.t 26), none⟩ ::
       ⟨(some 31), .ex 1 (.t 26), none⟩ ::
       ⟨(some 5), .al [.int .i64 0, .nils], none⟩ ::
       ⟨none, .st 2 (.t 5) (.t 30), none⟩ ::
       ⟨(some 6), .mv (.t 31), none⟩ ::
       []))
     (.seq
      (.reg (⟨(some 33), .ld 2 true (.t 1), none⟩ ::
        ⟨(some 34), .ld 2 true (.t 2), none⟩ ::
        ⟨(some 35), .call (.c (.fn 23 [])) [(.t 33), (.t 34)], none⟩ ::
        ⟨(some 32), .mv (.t 35), none⟩ ::
        ⟨(some 36), .ex 0 (.t 32), none⟩ ::
        ⟨(some 37), .ex 1 (.t 32), none⟩ ::
        ⟨(some 7), .al [.int .i64 0, .nils], none⟩ ::
        ⟨none, .st 2 (.t 7) (.t 36), none⟩ ::
        ⟨(some 8), .mv (.t 37), none⟩ ::
        []))
      (.seq
       (.reg (⟨(some 39), .ld 2 true (.t 2), none⟩ ::
         ⟨(some 40), .ld 2 true (.t 1), none⟩ ::
         ⟨(some 41), .call (.c (.fn 25 [])) [(.t 39), (.t 40)], none⟩ ::
         ⟨(some 38), .mv (.t 41), none⟩ ::
         ⟨(some 42), .ex 0 (.t 38), none⟩ ::
         ⟨(some 43), .ex 1 (.t 38), none⟩ ::
         ⟨(some 9), .al [.int .i64 0, .nils], none⟩ ::
         ⟨none, .st 2 (.t 9) (.t 42), none⟩ ::
         ⟨(some 10), .mv (.t 43), none⟩ ::
         []))
       (.seq
        (.reg (⟨(some 45), .ld 2 true (.t 1), none⟩ ::
          ⟨(some 46), .bld [.int .i64 0, .nils] [], none⟩ ::
          ⟨(some 47), .call (.c (.fn 18 [])) [(.c (.int .i64 1)), (.t 45), (.t 46)], none⟩ ::
          ⟨(some 44), .mv (.t 47), none⟩ ::
          ⟨(some 48), .ex 0 (.t 44), none⟩ ::
          ⟨(some 49), .ex 1 (.t 44), none⟩ ::
          ⟨(some 11), .al [.int .i64 0, .nils], none⟩ ::
          ⟨none, .st 2 (.t 11) (.t 48), none⟩ ::
          ⟨(some 12), .mv (.t 49), none⟩ ::
          []))
        (.seq
         (.reg (⟨(some 50), .mv (.t 4), none⟩ ::
           ⟨(some 51), .bin .eql (.t 50) (.c (.int .i64 0)), none⟩ ::
           ⟨(some 52), .mv (.t 51), none⟩ ::
           ⟨(some 53), .ld 2 true (.t 3), some (52, true)⟩ ::
           ⟨(some 54), .ld 2 true (.t 2), some (52, true)⟩ ::
           ⟨(some 55), .call (.c (.fn 22 [])) [(.t 53), (.t 54)], some (52, true)⟩ ::
           ⟨(some 56), .pick (.t 52) (.t 55) (.c (.bool false)), none⟩ ::
           ⟨(some 57), .mv (.t 56), none⟩ ::
           ⟨(some 58), .mv (.t 6), some (57, true)⟩ ::
           ⟨(some 59), .bin .eql (.t 58) (.c (.int .i64 0)), some (57, true)⟩ ::
           ⟨(some 60), .pick (.t 57) (.t 59) (.c (.bool false)), none⟩ ::
           ⟨(some 61), .mv (.t 60), none⟩ ::
           ⟨(some 62), .fa 1 (.t 5), some (61, true)⟩ ::
           ⟨(some 63), .ld 1 false (.t 62), some (61, true)⟩ ::
           ⟨(some 64), .ln (.t 63), some (61, true)⟩ ::
           ⟨(some 65), .bin .eql (.t 64) (.c (.int .i64 1)), some (61, true)⟩ ::
           ⟨(some 66), .pick (.t 61) (.t 65) (.c (.bool false)), none⟩ ::
           ⟨(some 67), .mv (.t 66), none⟩ ::
           ⟨(some 68), .fa 1 (.t 5), some (67, true)⟩ ::
           ⟨(some 69), .ld 1 false (.t 68), some (67, true)⟩ ::
           ⟨(some 70), .ia 2 (.t 69) (.c (.int .i64 0)), some (67, true)⟩ ::
           ⟨(some 71), .fa 1 (.t 70), some (67, true)⟩ ::
           ⟨(some 72), .ld 1 false (.t 71), some (67, true)⟩ ::
           ⟨(some 73), .bin .eql (.t 72) (.c (.int .i64 15)), some (67, true)⟩ ::
           ⟨(some 74), .pick (.t 67) (.t 73) (.c (.bool false)), none⟩ ::
           ⟨(some 75), .mv (.t 74), none⟩ ::
           ⟨(some 76), .mv (.t 8), some (75, true)⟩ ::
           ⟨(some 77), .bin .eql (.t 76) (.c (.int .i64 0)), some (75, true)⟩ ::
           ⟨(some 78), .pick (.t 75) (.t 77) (.c (.bool false)), none⟩ ::
           ⟨(some 79), .mv (.t 78), none⟩ ::
           ⟨(some 80), .ld 2 true (.t 7), some (79, true)⟩ ::
           ⟨(some 81), .ld 2 true (.t 2), some (79, true)⟩ ::
           ⟨(some 82), .call (.c (.fn 22 [])) [(.t 80), (.t 81)], some (79, true)⟩ ::
           ⟨(some 83), .pick (.t 79) (.t 82) (.c (.bool false)), none⟩ ::
           ⟨(some 84), .mv (.t 83), none⟩ ::
           ⟨(some 85), .mv (.t 10), some (84, true)⟩ ::
           ⟨(some 86), .bin .eql (.t 85) (.c (.int .i64 0)), some (84, true)⟩ ::
           ⟨(some 87), .pick (.t 84) (.t 86) (.c (.bool false)), none⟩ ::
           ⟨(some 88), .mv (.t 87), none⟩ ::
           ⟨(some 89), .fa 1 (.t 9), some (88, true)⟩ ::
           ⟨(some 90), .ld 1 false (.t 89), some (88, true)⟩ ::
           ⟨(some 91), .ln (.t 90), some (88, true)⟩ ::
           ⟨(some 92), .bin .eql (.t 91) (.c (.int .i64 2)), some (88, true)⟩ ::
           ⟨(some 93), .pick (.t 88) (.t 92) (.c (.bool false)), none⟩ ::
           ⟨(some 94), .mv (.t 93), none⟩ ::
           ⟨(some 95), .mv (.t 12), some (94, true)⟩ ::
           ⟨(some 96), .bin .eql (.t 95) (.c (.int .i64 4)), some (94, true)⟩ ::
           ⟨(some 97), .pick (.t 94) (.t 96) (.c (.bool false)), none⟩ ::
           ⟨(some 98), .mv (.t 97), none⟩ ::
           ⟨(some 99), .ld 2 true (.t 2), some (98, true)⟩ ::
           ⟨(some 100), .bsl 1 1 [.int .u64 0] [(0, (.c (.int .u64 2)))], some (98, true)⟩ ::
           ⟨(some 101), .call (.c (.fn 27 [])) [(.t 99), (.t 100), (.c (.bool false))], some (98, true)⟩ ::
           ⟨(some 102), .fd 1 1 false (.t 101), some (98, true)⟩ ::
           ⟨(some 103), .ln (.t 102), some (98, true)⟩ ::
           ⟨(some 104), .bin .eql (.t 103) (.c (.int .i64 1)), some (98, true)⟩ ::
           ⟨(some 105), .pick (.t 98) (.t 104) (.c (.bool false)), none⟩ ::
           ⟨(some 106), .mv (.t 105), none⟩ ::
           ⟨(some 107), .ld 2 true (.t 2), some (106, true)⟩ ::
           ⟨(some 108), .bsl 1 1 [.int .u64 0] [(0, (.c (.int .u64 2)))], some (106, true)⟩ ::
           ⟨(some 109), .call (.c (.fn 27 [])) [(.t 107), (.t 108), (.c (.bool true))], some (106, true)⟩ ::
           ⟨(some 110), .fd 1 1 false (.t 109), some (106, true)⟩ ::
           ⟨(some 111), .ln (.t 110), some (106, true)⟩ ::
           ⟨(some 112), .bin .eql (.t 111) (.c (.int .i64 1)), some (106, true)⟩ ::
           ⟨(some 113), .pick (.t 106) (.t 112) (.c (.bool false)), none⟩ ::
           ⟨(some 0), .mv (.t 113), none⟩ ::
           []))
         .ret)))))))))
theorem cd_fretworklaw11_live : Code1 Try.prog 17 114 ir_fretworklaw11_live [.t 0] := ⟨Try.call17, _, _, Try.func17, rfl, by kernel_rfl, by kernel_rfl, by kernel_rfl, by kernel_rfl⟩

set_option maxHeartbeats 4000000 in
theorem fs_live11 : FS Try.prog 17 [] (.bool true) := by
  have c1 := fs_bUnion 1 3 [(1, 5)] 3 [(1, 3), (2, 4)] (by simp) (by simp) (IbL _ (by decide)) (IbL _ (by decide))
  rw [show unR 1 3 [(1, 5)] 3 [(1, 3), (2, 4)] = (3, [(1, 3), (2, 4)], 0) by kernel_rfl] at c1
  have c2 := fs_bMeet 5 3 [(1, 5)] 3 [(1, 3), (2, 4)] (by simp) (by simp) (IbL _ (by decide)) (IbL _ (by decide))
  rw [show meR 5 3 [(1, 5)] 3 [(1, 3), (2, 4)] = (3, [(1, 15)], 0) by kernel_rfl] at c2
  have c3 := fs_bOver 3 [(1, 5)] 3 [(1, 3), (2, 4)] (by simp) (by simp)
  rw [show ovR 3 [(1, 5)] 3 [(1, 3), (2, 4)] = (3, [(1, 3), (2, 4)], 0) by kernel_rfl] at c3
  have c4 := fs_bBetter 3 [(1, 3), (2, 4)] 3 [(1, 5)] (by simp) (by simp)
  rw [show beR 3 [(1, 3), (2, 4)] 3 [(1, 5)] = (3, [(1, 3), (2, 4)], 0) by kernel_rfl] at c4
  have c5 := fs_bUnion 1 3 [(1, 5)] 0 [] (by simp) (by simp) (IbL _ (by decide)) (IbL _ (by decide))
  rw [show unR 1 3 [(1, 5)] 0 [] = (0, [], 4) by kernel_rfl] at c5
  have w2 : Wd [2] := by intro x hx; simp at hx; omega
  have c6 := fs_bMask 3 [(1, 3), (2, 4)] [2] false (by simp) (IbL _ (by decide)) w2
  rw [show sn 3 [(1, 3), (2, 4)] = 3 by kernel_rfl, show rest (fun x => hasI [2] x.1 == false) (sl 3 [(1, 3), (2, 4)]) = [(1, 3)] by kernel_rfl] at c6
  have c7 := fs_bMask 3 [(1, 3), (2, 4)] [2] true (by simp) (IbL _ (by decide)) w2
  rw [show sn 3 [(1, 3), (2, 4)] = 3 by kernel_rfl, show rest (fun x => hasI [2] x.1 == true) (sl 3 [(1, 3), (2, 4)]) = [(2, 4)] by kernel_rfl] at c7
  have c8 := fs_r9Same 3 3 [(1, 3), (2, 4)] [(1, 3), (2, 4)] (by simp) (by simp)
  rw [decide_eq_true (rfl : (3 : Int) = 3), decide_eq_true (rfl : [((1 : Int), (3 : Int)), (2, 4)] = [(1, 3), (2, 4)]), Bool.true_and] at c8
  refine fs_of_cvc mixed cd_fretworklaw11_live (by simp) ?_
  repeat' (conv => whnf); first
    | ((refine Or.inl ⟨by rfl, _, c1, ?_⟩))
    | ((refine Or.inl ⟨by rfl, _, c2, ?_⟩))
    | ((refine Or.inl ⟨by rfl, _, c3, ?_⟩))
    | ((refine Or.inl ⟨by rfl, _, c4, ?_⟩))
    | ((refine Or.inl ⟨by rfl, _, c5, ?_⟩))
    | ((refine Or.inl ⟨by rfl, _, fs_le c5 ⟨rfl, rfl, ⟨rfl, rfl, trivial⟩, trivial⟩, ?_⟩))
    | ((refine Or.inl ⟨by rfl, _, c6, ?_⟩))
    | ((refine Or.inl ⟨by rfl, _, c7, ?_⟩))
    | ((refine Or.inl ⟨by rfl, _, c8, ?_⟩))
    | ((refine fun z hz => ?_); (obtain rfl := its_c0 hz; clear hz))
    | ((refine Br.beq (by rfl) ?_))
    | ((refine Br.bne (by rfl) ?_))
    | (refine Br.tt ?_)
    | (refine Br.ff ?_)
    | (refine Br.dec (fun h => ?_) (fun h => ?_)) <;> try (exfalso; omega)
    | (refine Br.neg ?_)
    | (refine Br.mk (fun h => ?_) (fun h => ?_))
    | (refine And.intro rfl ?_)
    | (refine And.intro (by omega) ?_)
    | (refine ⟨_, Or.inl ⟨⟨by omega, by omega⟩, rfl⟩, ?_⟩)
    | (refine And.intro (by simp only [lens_all, its_len]; first | done | omega) ?_)
    | (refine And.intro (Nat.le_refl _) ?_)
    | fail
  all_goals exact rfl
end
end Go.Proofs.Ytckbagpdahhiiaa
