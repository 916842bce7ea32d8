/- Sparse vectors: the document's functions. Two sparse vectors: the document's functions. Two sparse vectors: the document's functions, further. Sparse vectors: the document's Put; Over. Two sparse vectors: the program's answers are the document's. In plain words. The laws on two sparse vectors: what they call. -/
import Derived.Test.YtchjhncoahdbnaaGreatV1
namespace Go.Proofs.YtchjhncoahdbnaaGreat
section
open Go.RowKit
attribute [local irreducible] FS FO IT HS
theorem its_is {l : List (Int × Int)} {q : Nat} {x : List SV} (h : (its l)[q]? = some x) {i : Nat} (hq : q = i) : x = [.int .i64 (l.getD i (0, 0)).1, .int .i64 (l.getD i (0, 0)).2] := by
  subst hq
  obtain ⟨y, hy, rfl⟩ := its_get h
  simp [hy]
theorem its_go {l : List (Int × Int)} {q : Nat} {i : Nat} {K : List SV → Prop} (hq : q = i) (h : K [.int .i64 (l.getD i (0, 0)).1, .int .i64 (l.getD i (0, 0)).2]) : ∀ x, (its l)[q]? = some x → K x := fun x hx => by rw [its_is hx hq]; exact h
theorem getD_some {l : List (Int × Int)} {i : Nat} (h : i < l.length) : l[i]? = some (l.getD i (0, 0)) := by simp [h]
theorem eqi (neg : Bool) (a b c d : Int) : EqOk Tryz.prog neg 66 [.int .i64 a, .int .i64 b] [.int .i64 c, .int .i64 d] (match neg with | true => decide ((a, b) ≠ (c, d)) | false => decide ((a, b) = (c, d))) := by
  have h := eqok_flat (P := Tryz.prog) neg Tryz.underlying66 (by kernel_rfl) (by kernel_rfl) (ks := [.i64, .i64]) ⟨by decide, rfl, by kernel_rfl, by kernel_rfl, by kernel_rfl, by decide, rfl, by kernel_rfl, by kernel_rfl, by kernel_rfl, trivial⟩ (la := [a, b]) (lb := [c, d]) rfl rfl
  have e : ([a, b] = [c, d]) ↔ ((a, b) = (c, d)) := by simp
  have e2 : ([a, b] ≠ [c, d]) ↔ ((a, b) ≠ (c, d)) := not_congr e
  cases neg
  · simp only [decide_eq_decide.2 e] at h; exact h
  · simp only [decide_eq_decide.2 e2] at h; exact h
def ir_fretworkref07_SameItems : IR :=
(.seq (.reg (⟨some 4, .mv (.c (.bool false)), none⟩ :: [])) (.seq (.seq (.reg (⟨some 6, .mv (.t 0), none⟩ ::⟨some 7, .ln (.t 6), none⟩ ::⟨some 8, .mv (.t 1), none⟩ ::⟨some 9, .ln (.t 8), none⟩ ::⟨some 10, .bin .neq (.t 7) (.t 9), none⟩ :: [])) (.cond (.t 10) (.seq (.reg (⟨some 4, .mv (.c (.bool false)), none⟩ :: [])) .ret) .skip)) (.seq (.seq (.reg (⟨some 5, .mv (.c (.int .i64 0)), none⟩ :: [])) (.block 0 (.loop (.seq (.seq (.reg (⟨some 11, .mv (.t 5), none⟩ ::⟨some 12, .mv (.t 0), none⟩ ::⟨some 13, .ln (.t 12), none⟩ ::⟨some 14, .bin .lss (.t 11) (.t 13), none⟩ :: [])) (.cond (.t 14) .skip (.exit 0))) (.seq (.block 1 (.seq (.draw (⟨some 17, .mv (.t 0), none⟩ ::⟨some 18, .mv (.t 5), none⟩ ::⟨some 19, .ia 2 (.t 17) (.t 18), none⟩ ::⟨some 20, .ld 2 true (.t 19), none⟩ ::⟨some 21, .mv (.t 1), none⟩ ::⟨some 22, .mv (.t 5), none⟩ ::⟨some 23, .ia 2 (.t 21) (.t 22), none⟩ ::⟨some 24, .ld 2 true (.t 23), none⟩ :: []) (⟨some 25, .eqv true 66 (.t 20) (.t 24), none⟩ :: [])) (.cond (.t 25) (.seq (.reg (⟨some 4, .mv (.c (.bool false)), none⟩ :: [])) .ret) .skip))) (.reg (⟨some 15, .mv (.t 5), none⟩ ::⟨some 16, .bin .add (.t 15) (.c (.int .i64 1)), none⟩ ::⟨some 5, .mv (.t 16), none⟩ :: []))))))) (.seq (.reg (⟨some 4, .mv (.c (.bool true)), none⟩ :: [])) .ret))))
theorem cd_fretworkref07_SameItems : Code1 Tryz.prog 39 26 ir_fretworkref07_SameItems [.t 4] := ⟨Tryz.call39, _, _, Tryz.func39, rfl, by kernel_rfl, by kernel_rfl, by kernel_rfl, by kernel_rfl⟩
theorem fs_SameItems (l m : List (Int × Int)) (_hl : l.length ≤ 1000000000) (hm : m.length ≤ 1000000000) : FS Tryz.prog 39 [IL l, IL m] (.bool (decide (l = m))) := by
  refine fs_of_cvc mixed cd_fretworkref07_SameItems (by simp) ?_
  have h1 := its_len l
  have h2 := its_len m
  repeat' (conv => whnf); first |(refine Br.beq (by rfl) ?_) |(refine Br.bne (by rfl) ?_) | refine Br.tt ?_ | refine Br.ff ?_ |(refine Br.dec (fun h=>?_) (fun h=>?_)) <;> try (exfalso; omega) | refine Br.neg ?_ |(refine Br.mk (fun h=>?_) (fun h=>?_)) | refine And.intro rfl ?_ |(refine And.intro (by omega) ?_) |(refine ⟨_, Or.inl ⟨⟨by omega, by omega⟩, rfl⟩, ?_⟩) |(refine And.intro (by simp only [lens_all, its_len]; first | done | omega) ?_) |(refine And.intro (Nat.le_refl _) ?_) | fail
  · show SV.bool false = SV.bool _
    have : l ≠ m := fun e => by subst e; omega
    simp [this]
  · have hlm : l.length = m.length := by omega
    refine ⟨Nat, fun k => k ≤ l.length ∧ l.take k = m.take k, fun k => [(0, IL l), (1, IL m), (5, .int .i64 (k : Int))], fun k => [], fun _ => none, fun k => l.length - k, ⟨0, ⟨by omega, rfl⟩, ⟨rfl, rfl, rfl, trivial⟩, trivial, rfl⟩, fun k hk => ?_⟩
    obtain ⟨hk1, hk2⟩ := hk
    repeat' (conv => whnf); first |(refine its_go (i := k) (by omega) ?_) |(refine ⟨_, eqi true _ _ _ _, ?_⟩) |(refine Br.beq (by rfl) ?_) |(refine Br.bne (by rfl) ?_) | refine Br.tt ?_ | refine Br.ff ?_ |(refine Br.dec (fun h=>?_) (fun h=>?_)) <;> try (exfalso; omega) | refine Br.neg ?_ |(refine Br.mk (fun h=>?_) (fun h=>?_)) | refine And.intro rfl ?_ |(refine And.intro (by omega) ?_) |(refine ⟨_, Or.inl ⟨⟨by omega, by omega⟩, rfl⟩, ?_⟩) |(refine And.intro (by simp only [lens_all]; first | done | omega) ?_) |(refine And.intro (Nat.le_refl _) ?_) | fail
    · show SV.bool false = SV.bool _
      have : l ≠ m := fun e => by subst e; exact h rfl
      simp [this]
    · have hkl : k < l.length := by omega
      have heq : l.getD k (0, 0) = m.getD k (0, 0) := Classical.not_not.1 h
      refine ⟨k + 1, ⟨by omega, ?_⟩, (show l.length - (k + 1) < l.length - k by omega), ⟨rfl, rfl, rfl, trivial⟩, trivial, rfl⟩
      rw [List.take_add_one, List.take_add_one, hk2, getD_some hkl, getD_some (l := m) (by omega), heq]
    · have hkl : k = l.length := by omega
      subst hkl
      rw [List.take_length, hlm, List.take_length] at hk2
      show SV.bool true = SV.bool _
      simp [hk2]
def ir_fretworkref09_Same : IR :=
(.seq (.reg (⟨some 2, .bx (.t 0), none⟩ ::⟨some 3, .bx (.t 1), none⟩ ::⟨some 4, .mv (.c (.bool false)), none⟩ :: [])) (.seq (.reg (⟨some 5, .fa 0 (.t 2), none⟩ ::⟨some 6, .ld 1 false (.t 5), none⟩ ::⟨some 7, .fa 0 (.t 3), none⟩ ::⟨some 8, .ld 1 false (.t 7), none⟩ ::⟨some 9, .bin .eql (.t 6) (.t 8), none⟩ ::⟨some 10, .mv (.t 9), none⟩ ::⟨some 11, .fa 1 (.t 2), some (10, true)⟩ ::⟨some 12, .ld 1 false (.t 11), some (10, true)⟩ ::⟨some 13, .fa 1 (.t 3), some (10, true)⟩ ::⟨some 14, .ld 1 false (.t 13), some (10, true)⟩ ::⟨some 15, .call (.c (.fn 39 [])) [(.t 12), (.t 14)], some (10, true)⟩ ::⟨some 16, .pick (.t 10) (.t 15) (.c (.bool false)), none⟩ ::⟨some 4, .mv (.t 16), none⟩ :: [])) .ret))
theorem cd_fretworkref09_Same : Code1 Tryz.prog 13 17 ir_fretworkref09_Same [.t 4] := ⟨Tryz.call13, _, _, Tryz.func13, rfl, by kernel_rfl, by kernel_rfl, by kernel_rfl, by kernel_rfl⟩
theorem fs_r9Same (n p : Int) (l m : List (Int × Int)) (hl : l.length ≤ 1000000000) (hm : m.length ≤ 1000000000) : FS Tryz.prog 13 [VC n l, VC p m] (.bool (decide (n = p) && decide (l = m))) := by
  refine fs_of_cvc mixed cd_fretworkref09_Same (by simp) ?_
  repeat' (conv => whnf); first |(refine Or.inl ⟨by rfl, _, fs_SameItems l m hl hm, ?_⟩) |(refine Br.beq (by rfl) ?_) |(refine Br.bne (by rfl) ?_) | refine Br.tt ?_ | refine Br.ff ?_ |(refine Br.dec (fun h=>?_) (fun h=>?_)) <;> try (exfalso; omega) | refine Br.neg ?_ |(refine Br.mk (fun h=>?_) (fun h=>?_)) | refine And.intro rfl ?_ |(refine And.intro (by omega) ?_) |(refine ⟨_, Or.inl ⟨⟨by omega, by omega⟩, rfl⟩, ?_⟩) |(refine And.intro (by simp only [lens_all, its_len]; first | done | omega) ?_) |(refine And.intro (Nat.le_refl _) ?_) | fail
  all_goals (show SV.bool _ = SV.bool _; simp [*])
end
section
open Go.RowKit
attribute [local irreducible] FS FO IT HS
end
section
open Go.RowKit
attribute [local irreducible] FS FO IT HS
theorem vtake_more {l : List (Int × Int)} {k : Nat} (h : k < l.length) : l.take (k + 1) = l.take k ++ [l.getD k (0, 0)] := by
  rw [List.take_add_one, getD_some h]; rfl
theorem mem_getD {l : List (Int × Int)} {k : Nat} (h : k < l.length) : l.getD k (0, 0) ∈ l := List.mem_of_getElem? (getD_some h)
theorem fm_one (f : Int × Int → Option (Int × Int)) (x : Int × Int) : [x].filterMap f = (f x).toList := by cases h : f x <;> simp [h]
end
section
open Go.RowKit
attribute [local irreducible] FS FO IT HS
def pStep (p v : Int) (s : List (Int × Int) × Bool) (x : Int × Int) : List (Int × Int) × Bool :=
  (let o := if s.2 = false ∧ p ≤ x.1 then s.1 ++ [(p, v)] else s.1
   if x.1 = p then o else o ++ [x], s.2 || decide (p ≤ x.1))
def pEnd (p v : Int) (s : List (Int × Int) × Bool) : List (Int × Int) := if s.2 = true then s.1 else s.1 ++ [(p, v)]
def putR (n : Int) (l : List (Int × Int)) (p v : Int) : List (Int × Int) := pEnd p v (l.foldl (pStep p v) ([], decide (p < 0) || decide (n ≤ p)))
theorem pStep_a {p v : Int} {o : List (Int × Int)} {x : Int × Int} (h : p ≤ x.1) (h' : x.1 ≠ p) : pStep p v (o, false) x = (o ++ [(p, v)] ++ [x], true) := by simp [pStep, h, h']
theorem pStep_b {p v : Int} {o : List (Int × Int)} {x : Int × Int} (h : x.1 = p) : pStep p v (o, false) x = (o ++ [(p, v)], true) := by simp [pStep, h]
theorem pStep_c {p v : Int} {o : List (Int × Int)} {x : Int × Int} (h : ¬ p ≤ x.1) : pStep p v (o, false) x = (o ++ [x], false) := by
  have : ¬ x.1 = p := by omega
  simp [pStep, h, this]
theorem pStep_d {p v : Int} {o : List (Int × Int)} {x : Int × Int} (h : x.1 ≠ p) : pStep p v (o, true) x = (o ++ [x], true) := by simp [pStep, h]
theorem pStep_e {p v : Int} {o : List (Int × Int)} {x : Int × Int} (h : x.1 = p) : pStep p v (o, true) x = (o, true) := by simp [pStep, h]
end
section
open Go.RowKit
attribute [local irreducible] FS FO IT HS
structure OkV (n : Int) (l : List (Int × Int)) : Prop where
  n0 : 0 ≤ n
  n1 : n ≤ 4096
  up : Up l
  lo : ∀ x ∈ l, 0 ≤ x.1 ∧ x.1 < n
theorem okV (n : Int) (l : List (Int × Int)) : OkV (sn n l) (sl n l) := ⟨(sn_le n l).1, (sn_le n l).2, (sl_up n l).1, (sl_up n l).2⟩
theorem ups_of {n : Int} : ∀ {l : List (Int × Int)} {k : Int}, Up l → (∀ x ∈ l, k < x.1 ∧ x.1 < n) → ups n k l = true
  | [], _, _, _ => rfl
  | x :: xs, k, h, hk => by
    have h1 := hk x (by simp)
    simp only [ups, Bool.and_eq_true]
    refine ⟨?_, ups_of h.tail fun y hy => ⟨h.head y hy, (hk y (by simp [hy])).2⟩⟩
    rw [decide_eq_false (by omega), decide_eq_false (by omega)]; rfl
theorem OkV.isV {n : Int} {l : List (Int × Int)} (h : OkV n l) : isV n l = true := by
  unfold Go.Proofs.YtchjhncoahdbnaaGreat.isV
  rw [decide_eq_true h.n0, decide_eq_true h.n1, ups_of h.up fun x hx => by have := h.lo x hx; omega]; rfl
theorem OkV.sn {n : Int} {l : List (Int × Int)} (h : OkV n l) : sn n l = n := if_pos h.isV
theorem OkV.sl {n : Int} {l : List (Int × Int)} (h : OkV n l) : sl n l = l := if_pos h.isV
theorem OkV.out {n : Int} {l : List (Int × Int)} (h : OkV n l) {k : Int} (hk : ¬ (0 ≤ k ∧ k < n)) : gt l k = none := gt_none fun x hx e => hk (e ▸ h.lo x hx)
theorem OkV.at {n : Int} {l : List (Int × Int)} (h : OkV n l) {k v : Int} (hk : gt l k = some v) : 0 ≤ k ∧ k < n := h.lo _ (gt_mem hk)
theorem gt_fm {f : Int × Int → Option (Int × Int)} (hf : ∀ x y, f x = some y → y.1 = x.1) : ∀ {l : List (Int × Int)}, Up l → ∀ k, gt (l.filterMap f) k = (gt l k).bind fun v => (f (k, v)).map (·.2)
  | [], _, k => rfl
  | x :: xs, h, k => by
    rw [List.filterMap_cons, gt_cons]
    have ih := gt_fm hf h.tail k
    have hn : x.1 = k → gt (xs.filterMap f) k = none := fun e => gt_none fun z hz => by
      obtain ⟨w, hw, hz⟩ := List.mem_filterMap.1 hz
      have := h.head w hw
      rw [hf w z hz]; omega
    have hx' : x.1 = k → (k, x.2) = x := fun e => by rw [← e]
    cases hx : f x with
    | none =>
      by_cases hk : x.1 = k
      · rw [if_pos hk, Option.bind_some, hx' hk, hx]; simpa using hn hk
      · rw [if_neg hk]; exact ih
    | some y =>
      simp only []
      rw [gt_cons, hf x y hx]
      by_cases hk : x.1 = k
      · rw [if_pos hk, if_pos hk, Option.bind_some, hx' hk, hx]; rfl
      · rw [if_neg hk, if_neg hk]; exact ih
def tabL (g : Int → Option Int) (m : Nat) : List (Int × Int) := (List.range m).filterMap fun (i : Nat) => (g (i : Int)).map fun v => ((i : Int), v)
theorem tabL_succ (g : Int → Option Int) (m : Nat) : tabL g (m + 1) = tabL g m ++ ((g (m : Int)).map fun v => ((m : Int), v)).toList := by
  unfold tabL
  rw [List.range_succ, List.filterMap_append]
  congr 1
theorem tabL_mem {g : Int → Option Int} {m : Nat} {x : Int × Int} (h : x ∈ tabL g m) : 0 ≤ x.1 ∧ x.1 < m ∧ g x.1 = some x.2 := by
  obtain ⟨i, hi, h⟩ := List.mem_filterMap.1 h
  obtain ⟨v, hv, rfl⟩ := Option.map_eq_some_iff.1 h
  have := List.mem_range.1 hi
  exact ⟨by simp, by simp; omega, hv⟩
theorem up_tabL (g : Int → Option Int) : ∀ m, Up (tabL g m)
  | 0 => .nil
  | m + 1 => by
    rw [tabL_succ]
    refine List.pairwise_append.2 ⟨up_tabL g m, ?_, fun x hx y hy => ?_⟩
    · cases g (m : Int) <;> simp
    · have := (tabL_mem hx).2.1
      cases hg : g (m : Int) with
      | none => rw [hg] at hy; simp at hy
      | some v => rw [hg] at hy; simp at hy; subst hy; exact this
theorem gt_append {l m : List (Int × Int)} (k : Int) : gt (l ++ m) k = (gt l k).or (gt m k) := by
  unfold gt
  rw [List.find?_append]
  cases l.find? fun x => decide (x.1 = k) <;> simp
theorem gt_tabL (g : Int → Option Int) : ∀ (m : Nat) (k : Int), gt (tabL g m) k = if 0 ≤ k ∧ k < m then g k else none
  | 0, k => by rw [if_neg (by omega)]; rfl
  | m + 1, k => by
    rw [tabL_succ, gt_append, gt_tabL g m k]
    by_cases h : 0 ≤ k ∧ k < m
    · rw [if_pos h, if_pos (by omega)]
      cases hg : g k with
      | some v => rfl
      | none =>
        rw [Option.none_or]
        cases hm : g (m : Int) with
        | none => rfl
        | some v =>
          show gt [((m : Int), v)] k = none
          rw [gt_cons, if_neg (by show (m : Int) ≠ k; omega)]; rfl
    · rw [if_neg h, Option.none_or]
      by_cases h' : k = m
      · subst h'
        rw [if_pos (by omega)]
        cases hm : g (m : Int) with
        | none => rfl
        | some v => show gt [((m : Int), v)] (m : Int) = some v; rw [gt_cons, if_pos rfl]
      · rw [if_neg (by omega)]
        cases hm : g (m : Int) with
        | none => rfl
        | some v => show gt [((m : Int), v)] k = none; rw [gt_cons, if_neg (by show (m : Int) ≠ k; omega)]; rfl
section
variable {n : Int} {a b : List (Int × Int)} (ha : OkV n a) (hb : OkV n b)
include ha hb
end
/-! ### What is put -/
def putI (p v : Int) : List (Int × Int) → List (Int × Int)
  | [] => [(p, v)]
  | x :: xs => if p ≤ x.1 then (p, v) :: (x :: xs).filter (fun y => decide (y.1 ≠ p)) else x :: putI p v xs
theorem fold_true (p v : Int) : ∀ (l o : List (Int × Int)), l.foldl (pStep p v) (o, true) = (o ++ l.filter (fun y => decide (y.1 ≠ p)), true)
  | [], o => by simp
  | x :: l, o => by
    rw [List.foldl_cons]
    by_cases h : x.1 = p
    · rw [pStep_e h, fold_true p v l]; simp [h]
    · rw [pStep_d h, fold_true p v l]; simp [h]
theorem fold_false (p v : Int) : ∀ (l o : List (Int × Int)), pEnd p v (l.foldl (pStep p v) (o, false)) = o ++ putI p v l
  | [], o => by simp [pEnd, putI]
  | x :: l, o => by
    rw [List.foldl_cons, putI]
    by_cases h : p ≤ x.1
    · rw [if_pos h]
      by_cases h' : x.1 = p
      · rw [pStep_b h', fold_true]; simp [pEnd, h']
      · rw [pStep_a h h', fold_true]; simp [pEnd, h']
    · rw [if_neg h, pStep_c h, fold_false p v l]; simp
theorem putR_in {n p v : Int} {l : List (Int × Int)} (h : 0 ≤ p ∧ p < n) : putR n l p v = putI p v l := by
  unfold putR
  rw [decide_eq_false (by omega), decide_eq_false (by omega)]
  exact (fold_false p v l []).trans (List.nil_append _)
theorem putR_out {n p v : Int} {l : List (Int × Int)} (h : ¬ (0 ≤ p ∧ p < n)) (hl : ∀ x ∈ l, 0 ≤ x.1 ∧ x.1 < n) : putR n l p v = l := by
  unfold putR
  have : (decide (p < 0) || decide (n ≤ p)) = true := by rw [Bool.or_eq_true, decide_eq_true_eq, decide_eq_true_eq]; omega
  rw [this, fold_true]
  simp only [pEnd, if_true, List.nil_append]
  rw [List.filter_eq_self]
  intro x hx
  have := hl x hx
  simp; omega
theorem putI_mem {p v : Int} : ∀ {l : List (Int × Int)} {x : Int × Int}, x ∈ putI p v l → x = (p, v) ∨ x ∈ l
  | [], x, h => by simpa [putI] using h
  | y :: l, x, h => by
    unfold putI at h
    split at h
    · rcases List.mem_cons.1 h with h | h
      · exact .inl h
      · exact .inr (List.mem_filter.1 h).1
    · rcases List.mem_cons.1 h with h | h
      · exact .inr (by simp [h])
      · exact (putI_mem h).imp id fun h => by simp [h]
theorem up_putI {p v : Int} : ∀ {l : List (Int × Int)}, Up l → Up (putI p v l)
  | [], _ => by simp [putI, Up]
  | y :: l, h => by
    unfold putI
    split
    · rename_i hp
      refine List.pairwise_cons.2 ⟨fun x hx => ?_, List.Pairwise.sublist List.filter_sublist h⟩
      obtain ⟨hx, hne⟩ := List.mem_filter.1 hx
      have hne : x.1 ≠ p := by simpa using hne
      rcases List.mem_cons.1 hx with rfl | hx
      · show p < x.1; omega
      · have := h.head x hx; show p < x.1; omega
    · rename_i hp
      refine List.pairwise_cons.2 ⟨fun x hx => ?_, up_putI h.tail⟩
      rcases putI_mem hx with rfl | hx
      · show y.1 < p; omega
      · exact h.head x hx
theorem OkV.put {n p v : Int} {l : List (Int × Int)} (h : OkV n l) : OkV n (putR n l p v) := by
  by_cases hp : 0 ≤ p ∧ p < n
  · rw [putR_in hp]
    refine ⟨h.n0, h.n1, up_putI h.up, fun x hx => ?_⟩
    rcases putI_mem hx with rfl | hx
    · exact hp
    · exact h.lo x hx
  · rw [putR_out hp h.lo]; exact h
end
section
open Go.RowKit
attribute [local irreducible] FS FO IT HS
end
end Go.Proofs.YtchjhncoahdbnaaGreat
