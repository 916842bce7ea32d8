/- Two sparse vectors: the program's answers are the document's. In plain words. The laws on two sparse vectors: what they call. -/
import Derived.Test.YtckbagpdahhiiaaV7
namespace Go.Proofs.Ytckbagpdahhiiaa
section
open Go.RowKit
attribute [local irreducible] FS FO IT HS

/-- A vector that can be. -/
structure OkV (n : Int) (l : List (Int × Int)) : Prop where
  n0 : 0 ≤ n
  n1 : n ≤ 4096
  up : Up l
  lo : ∀ x ∈ l, 0 ≤ x.1 ∧ x.1 < n
theorem okV (n : Int) (l : List (Int × Int)) : OkV (sn n l) (sl n l) := ⟨(sn_le n l).1, (sn_le n l).2, (sl_up n l).1, (sl_up n l).2⟩
theorem ups_of {n : Int} : ∀ {l : List (Int × Int)} {k : Int}, Up l → (∀ x ∈ l, k < x.1 ∧ x.1 < n) → ups n k l = true
  | [], _, _, _ => rfl
  | x :: xs, k, h, hk => by
    have h1 := hk x (by simp)
    simp only [ups, Bool.and_eq_true]
    refine ⟨?_, ups_of h.tail fun y hy => ⟨h.head y hy, (hk y (by simp [hy])).2⟩⟩
    rw [decide_eq_false (by omega), decide_eq_false (by omega)]; rfl
theorem OkV.isV {n : Int} {l : List (Int × Int)} (h : OkV n l) : isV n l = true := by
  unfold Go.Proofs.Ytckbagpdahhiiaa.isV
  rw [decide_eq_true h.n0, decide_eq_true h.n1, ups_of h.up fun x hx => by have := h.lo x hx; omega]; rfl
theorem OkV.sn {n : Int} {l : List (Int × Int)} (h : OkV n l) : sn n l = n := if_pos h.isV
theorem OkV.sl {n : Int} {l : List (Int × Int)} (h : OkV n l) : sl n l = l := if_pos h.isV
theorem OkV.out {n : Int} {l : List (Int × Int)} (h : OkV n l) {k : Int} (hk : ¬ (0 ≤ k ∧ k < n)) : gt l k = none := gt_none fun x hx e => hk (e ▸ h.lo x hx)
/-- A table of places. -/
def tabL (g : Int → Option Int) (m : Nat) : List (Int × Int) := (List.range m).filterMap fun (i : Nat) => (g (i : Int)).map fun v => ((i : Int), v)
theorem tabL_succ (g : Int → Option Int) (m : Nat) : tabL g (m + 1) = tabL g m ++ ((g (m : Int)).map fun v => ((m : Int), v)).toList := by
  unfold tabL
  rw [List.range_succ, List.filterMap_append]
  congr 1
theorem tabL_mem {g : Int → Option Int} {m : Nat} {x : Int × Int} (h : x ∈ tabL g m) : 0 ≤ x.1 ∧ x.1 < m ∧ g x.1 = some x.2 := by
  obtain ⟨i, hi, h⟩ := List.mem_filterMap.1 h
  obtain ⟨v, hv, rfl⟩ := Option.map_eq_some_iff.1 h
  have := List.mem_range.1 hi
  exact ⟨by simp, by simp; omega, hv⟩
theorem up_tabL (g : Int → Option Int) : ∀ m, Up (tabL g m)
  | 0 => .nil
  | m + 1 => by
    rw [tabL_succ]
    refine List.pairwise_append.2 ⟨up_tabL g m, ?_, fun x hx y hy => ?_⟩
    · cases g (m : Int) <;> simp
    · have := (tabL_mem hx).2.1
      cases hg : g (m : Int) with
      | none => rw [hg] at hy; simp at hy
      | some v => rw [hg] at hy; simp at hy; subst hy; exact this
theorem gt_append {l m : List (Int × Int)} (k : Int) : gt (l ++ m) k = (gt l k).or (gt m k) := by
  unfold gt
  rw [List.find?_append]
  cases l.find? fun x => decide (x.1 = k) <;> simp
theorem gt_tabL (g : Int → Option Int) : ∀ (m : Nat) (k : Int), gt (tabL g m) k = if 0 ≤ k ∧ k < m then g k else none
  | 0, k => by rw [if_neg (by omega)]; rfl
  | m + 1, k => by
    rw [tabL_succ, gt_append, gt_tabL g m k]
    by_cases h : 0 ≤ k ∧ k < m
    · rw [if_pos h, if_pos (by omega)]
      cases hg : g k with
      | some v => rfl
      | none =>
        rw [Option.none_or]
        cases hm : g (m : Int) with
        | none => rfl
        | some v =>
          show gt [((m : Int), v)] k = none
          rw [gt_cons, if_neg (by show (m : Int) ≠ k; omega)]; rfl
    · rw [if_neg h, Option.none_or]
      by_cases h' : k = m
      · subst h'
        rw [if_pos (by omega)]
        cases hm : g (m : Int) with
        | none => rfl
        | some v => show gt [((m : Int), v)] (m : Int) = some v; rw [gt_cons, if_pos rfl]
      · rw [if_neg (by omega)]
        cases hm : g (m : Int) with
        | none => rfl
        | some v => show gt [((m : Int), v)] k = none; rw [gt_cons, if_neg (by show (m : Int) ≠ k; omega)]; rfl
section
variable {n : Int} {a b : List (Int × Int)} (ha : OkV n a) (hb : OkV n b)
include ha hb

end

/-! ### What is put -/

def putI (p v : Int) : List (Int × Int) → List (Int × Int)
  | [] => [(p, v)]
  | x :: xs => if p ≤ x.1 then (p, v) :: (x :: xs).filter (fun y => decide (y.1 ≠ p)) else x :: putI p v xs
theorem fold_true (p v : Int) : ∀ (l o : List (Int × Int)), l.foldl (pStep p v) (o, true) = (o ++ l.filter (fun y => decide (y.1 ≠ p)), true)
  | [], o => by simp
  | x :: l, o => by
    rw [List.foldl_cons]
    by_cases h : x.1 = p
    · rw [pStep_e h, fold_true p v l]; simp [h]
    · rw [pStep_d h, fold_true p v l]; simp [h]
theorem fold_false (p v : Int) : ∀ (l o : List (Int × Int)), pEnd p v (l.foldl (pStep p v) (o, false)) = o ++ putI p v l
  | [], o => by simp [pEnd, putI]
  | x :: l, o => by
    rw [List.foldl_cons, putI]
    by_cases h : p ≤ x.1
    · rw [if_pos h]
      by_cases h' : x.1 = p
      · rw [pStep_b h', fold_true]; simp [pEnd, h']
      · rw [pStep_a h h', fold_true]; simp [pEnd, h']
    · rw [if_neg h, pStep_c h, fold_false p v l]; simp
theorem putR_in {n p v : Int} {l : List (Int × Int)} (h : 0 ≤ p ∧ p < n) : putR n l p v = putI p v l := by
  unfold putR
  rw [decide_eq_false (by omega), decide_eq_false (by omega)]
  exact (fold_false p v l []).trans (List.nil_append _)
theorem putR_out {n p v : Int} {l : List (Int × Int)} (h : ¬ (0 ≤ p ∧ p < n)) (hl : ∀ x ∈ l, 0 ≤ x.1 ∧ x.1 < n) : putR n l p v = l := by
  unfold putR
  have : (decide (p < 0) || decide (n ≤ p)) = true := by rw [Bool.or_eq_true, decide_eq_true_eq, decide_eq_true_eq]; omega
  rw [this, fold_true]
  simp only [pEnd, if_true, List.nil_append]
  rw [List.filter_eq_self]
  intro x hx
  have := hl x hx
  simp; omega
theorem putI_mem {p v : Int} : ∀ {l : List (Int × Int)} {x : Int × Int}, x ∈ putI p v l → x = (p, v) ∨ x ∈ l
  | [], x, h => by simpa [putI] using h
  | y :: l, x, h => by
    unfold putI at h
    split at h
    · rcases List.mem_cons.1 h with h | h
      · exact .inl h
      · exact .inr (List.mem_filter.1 h).1
    · rcases List.mem_cons.1 h with h | h
      · exact .inr (by simp [h])
      · exact (putI_mem h).imp id fun h => by simp [h]
theorem up_putI {p v : Int} : ∀ {l : List (Int × Int)}, Up l → Up (putI p v l)
  | [], _ => by simp [putI, Up]
  | y :: l, h => by
    unfold putI
    split
    · rename_i hp
      refine List.pairwise_cons.2 ⟨fun x hx => ?_, List.Pairwise.sublist List.filter_sublist h⟩
      obtain ⟨hx, hne⟩ := List.mem_filter.1 hx
      have hne : x.1 ≠ p := by simpa using hne
      rcases List.mem_cons.1 hx with rfl | hx
      · show p < x.1; omega
      · have := h.head x hx; show p < x.1; omega
    · rename_i hp
      refine List.pairwise_cons.2 ⟨fun x hx => ?_, up_putI h.tail⟩
      rcases putI_mem hx with rfl | hx
      · show y.1 < p; omega
      · exact h.head x hx
theorem gt_filter_ne {p : Int} {l : List (Int × Int)} {k : Int} : gt (l.filter fun y => decide (y.1 ≠ p)) k = if k = p then none else gt l k := by
  induction l with
  | nil => simp [gt_nil]
  | cons x l ih =>
    rw [List.filter_cons, gt_cons]
    by_cases h : x.1 = p
    · rw [if_neg (by simp [h]), ih]
      by_cases hk : k = p
      · rw [if_pos hk, if_pos hk]
      · rw [if_neg hk, if_neg hk, if_neg (by omega)]
    · rw [if_pos (by simp [h]), gt_cons, ih]
      by_cases hx : x.1 = k
      · rw [if_pos hx, if_pos hx, if_neg (by omega)]
      · rw [if_neg hx, if_neg hx]
theorem gt_putI {p v : Int} : ∀ {l : List (Int × Int)}, Up l → ∀ k, gt (putI p v l) k = if k = p then some v else gt l k
  | [], _, k => by
    unfold putI
    rw [gt_cons]
    by_cases h : k = p
    · rw [if_pos h.symm, if_pos h]
    · rw [if_neg (fun e => h e.symm), if_neg h]
  | y :: l, h, k => by
    unfold putI
    split
    · rename_i hp
      rw [gt_cons, gt_filter_ne]
      by_cases hk : k = p
      · rw [if_pos hk.symm, if_pos hk]
      · rw [if_neg (fun e => hk e.symm), if_neg hk, if_neg hk]
    · rename_i hp
      rw [gt_cons, gt_putI h.tail k, gt_cons]
      by_cases hy : y.1 = k
      · rw [if_pos hy, if_pos hy, if_neg (by omega)]
      · rw [if_neg hy, if_neg hy]
theorem OkV.put {n p v : Int} {l : List (Int × Int)} (h : OkV n l) : OkV n (putR n l p v) := by
  by_cases hp : 0 ≤ p ∧ p < n
  · rw [putR_in hp]
    refine ⟨h.n0, h.n1, up_putI h.up, fun x hx => ?_⟩
    rcases putI_mem hx with rfl | hx
    · exact hp
    · exact h.lo x hx
  · rw [putR_out hp h.lo]; exact h
theorem gt_putR {n p v : Int} {l : List (Int × Int)} (h : OkV n l) (k : Int) : gt (putR n l p v) k = if k = p ∧ 0 ≤ p ∧ p < n then some v else gt l k := by
  by_cases hp : 0 ≤ p ∧ p < n
  · rw [putR_in hp, gt_putI h.up]
    by_cases hk : k = p
    · rw [if_pos hk, if_pos ⟨hk, hp⟩]
    · rw [if_neg hk, if_neg (fun e => hk e.1)]
  · rw [putR_out hp h.lo, if_neg (fun e => hp e.2)]
end
section
open Go.RowKit
attribute [local irreducible] FS FO IT HS

def ir_fretworklaw09_Few : IR :=
(.seq (.reg (⟨(some 1), .bx (.t 0), none⟩ ::⟨(some 2), .al [.int .i64 0, .nils], none⟩ :: [])) (.seq (.seq (.reg (⟨(some 3), .fa 1 (.t 1), none⟩ ::⟨(some 4), .ld 1 false (.t 3), none⟩ ::⟨(some 5), .ln (.t 4), none⟩ ::⟨(some 6), .bin .gtr (.t 5) (.c (.int .i64 60)), none⟩ :: [])) (.cond (.t 6) (.reg (⟨(some 7), .fa 1 (.t 1), none⟩ ::⟨(some 8), .ld 1 false (.t 7), none⟩ ::⟨(some 9), .sl 2 (.t 8) none (some (.c (.int .i64 60))) none, none⟩ ::⟨(some 10), .fa 1 (.t 1), none⟩ ::⟨none, .st 1 (.t 10) (.t 9), none⟩ :: [])) .skip)) (.seq (.reg (⟨(some 11), .ld 2 true (.t 1), none⟩ ::⟨none, .st 2 (.t 2) (.t 11), none⟩ :: [])) .ret)))
theorem cd_fretworklaw09_Few : Code1 Try.prog 16 12 ir_fretworklaw09_Few [.c 2 true 2] := ⟨Try.call16, _, _, Try.func16, rfl, by kernel_rfl, by kernel_rfl, by kernel_rfl, by kernel_rfl⟩

theorem fs_Few (n : Int) (l : List (Int × Int)) : FS Try.prog 16 [VC n l] (VC n (l.take 60)) := by
  refine fs_of_cvc mixed cd_fretworklaw09_Few (by simp) ?_
  have hl := its_len l
  repeat' (conv => whnf); first
    | ((refine Br.beq (by rfl) ?_))
    | ((refine Br.bne (by rfl) ?_))
    | (refine Br.tt ?_)
    | (refine Br.ff ?_)
    | (refine Br.dec (fun h => ?_) (fun h => ?_)) <;> try (exfalso; omega)
    | (refine Br.neg ?_)
    | (refine Br.mk (fun h => ?_) (fun h => ?_))
    | (refine And.intro rfl ?_)
    | (refine And.intro (by omega) ?_)
    | (refine ⟨_, Or.inl ⟨⟨by omega, by omega⟩, rfl⟩, ?_⟩)
    | (refine And.intro (by simp only [lens_all]; first | done | omega) ?_)
    | (refine And.intro (Nat.le_refl _) ?_)
    | fail
  · conv => whnf
    show SV.agg [.int .i64 n, .slc 2 (List.drop 0 (List.take 60 (its l)))] = VC n (l.take 60)
    rw [List.drop_zero, its_take]; rfl
  · conv => whnf
    rw [List.take_of_length_le (by omega)]; rfl

theorem IbL (l : List (Int × Int)) (h : (l.all fun x => decide (-9223372036854775808 ≤ x.1) && decide (x.1 ≤ 9223372036854775807) && decide (-9223372036854775808 ≤ x.2) && decide (x.2 ≤ 9223372036854775807)) = true) : Ib l := fun x hx => by
  have := List.all_eq_true.1 h x hx
  simp at this
  unfold I64; omega
end
end Go.Proofs.Ytckbagpdahhiiaa
