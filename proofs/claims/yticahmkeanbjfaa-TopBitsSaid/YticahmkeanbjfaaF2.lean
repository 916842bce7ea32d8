/- The document's sets of places: words, places, lists. The document's sets of places: ranks, what two come to, parts. Sets of places: the laws, in plain words. The laws on sets of places: what they call. The laws on sets of places. The laws on sets of places, the others. The laws on sets of places: ranks, sets, parts. -/
import Derived.Test.YticahmkeanbjfaaF1
namespace Go.Proofs.Yticahmkeanbjfaa
section
open Go.RowKit
attribute [local irreducible] FS FO IT HS

theorem zs_at {l : List Int} {k : Nat} {x : List SV} (h : (zs l)[k]? = some x) : x = [.int .i64 (l.getD k 0)] := by
  obtain ⟨v, hv, rfl⟩ := zs_get h
  rw [List.getD_eq_getElem?_getD, hv]; rfl
theorem U_at {l : List Nat} {k : Nat} {x : List SV} (h : (uw l)[k]? = some x) : x = [.int .u64 ((l.getD k 0 : Nat) : Int)] := by
  obtain ⟨v, hv, rfl⟩ := U_get h
  rw [List.getD_eq_getElem?_getD, hv]; rfl
theorem ints_at {l : List Nat} {k : Nat} {x : List SV} (h : (ints l)[k]? = some x) : x = [.int .i64 ((l.getD k 0 : Nat) : Int)] := by
  obtain ⟨v, hv, rfl⟩ := ints_get' h
  rw [List.getD_eq_getElem?_getD, hv]; rfl
theorem getD_get {α : Type} {l : List α} {k : Nat} (z : α) (h : k < l.length) : l[k]? = some (l.getD k z) := by
  rw [List.getD_eq_getElem?_getD, List.getElem?_eq_getElem h]; rfl

theorem take_more {α : Type} {a b : List α} {k : Nat} (h : a.take k = b.take k) (he : a[k]? = b[k]?) : a.take (k + 1) = b.take (k + 1) := by
  rw [List.take_add_one, List.take_add_one, h, he]

/-- Are two lists the same? -/
def ir_fretworkref03_Same : IR :=
(.seq
 (.reg (⟨(some 4), .mv (.c (.bool false)), none⟩ ::
   []))
 (.seq
  (.seq
   (.reg (⟨(some 6), .mv (.t 0), none⟩ ::
     ⟨(some 7), .ln (.t 6), none⟩ ::
     ⟨(some 8), .mv (.t 1), none⟩ ::
     ⟨(some 9), .ln (.t 8), none⟩ ::
     ⟨(some 10), .bin .neq (.t 7) (.t 9), none⟩ ::
     []))
   (.cond (.t 10)
    (.seq
     (.reg (⟨(some 4), .mv (.c (.bool false)), none⟩ ::
       []))
     .ret)
    .skip))
  (.seq
   (.seq
    (.reg (⟨(some 5), .mv (.c (.int .i64 0)), none⟩ ::
      []))
    (.block 0
     (.loop
      (.seq
       (.seq
        (.reg (⟨(some 11), .mv (.t 5), none⟩ ::
          ⟨(some 12), .mv (.t 0), none⟩ ::
          ⟨(some 13), .ln (.t 12), none⟩ ::
          ⟨(some 14), .bin .lss (.t 11) (.t 13), none⟩ ::
          []))
        (.cond (.t 14)
         .skip
         (.exit 0)))
       (.seq
        (.block 1
         (.seq
          (.draw (⟨(some 17), .mv (.t 0), none⟩ ::
            ⟨(some 18), .mv (.t 5), none⟩ ::
            ⟨(some 19), .ia 1 (.t 17) (.t 18), none⟩ ::
            ⟨(some 20), .ld 1 false (.t 19), none⟩ ::
            ⟨(some 21), .mv (.t 1), none⟩ ::
            ⟨(some 22), .mv (.t 5), none⟩ ::
            ⟨(some 23), .ia 1 (.t 21) (.t 22), none⟩ ::
            ⟨(some 24), .ld 1 false (.t 23), none⟩ ::
            [])
           (⟨(some 25), .bin .neq (.t 20) (.t 24), none⟩ ::
            []))
          (.cond (.t 25)
           (.seq
            (.reg (⟨(some 4), .mv (.c (.bool false)), none⟩ ::
              []))
            .ret)
           .skip)))
        (.reg (⟨(some 15), .mv (.t 5), none⟩ ::
          ⟨(some 16), .bin .add (.t 15) (.c (.int .i64 1)), none⟩ ::
          ⟨(some 5), .mv (.t 16), none⟩ ::
          [])))))))
   (.seq
    (.reg (⟨(some 4), .mv (.c (.bool true)), none⟩ ::
      []))
    .ret))))
theorem cd_fretworkref03_Same : Code1 Try.prog 11 26 ir_fretworkref03_Same [.t 4] := ⟨Try.call11, _, _, Try.func11, rfl, by kernel_rfl, by kernel_rfl, by kernel_rfl, by kernel_rfl⟩

theorem fs_Same (a b : List Nat) (hla : a.length ≤ 1000000000) : FS Try.prog 11 [U a, U b] (.bool (decide (a = b))) := by
  refine fs_of_cvc mixed cd_fretworkref03_Same (by simp) ?_
  have ha := U_len a
  have hb := U_len b
  repeat' (conv => whnf); first
    | ((refine fun x hx => ?_); (obtain ⟨v, hv, rfl⟩ := U_get hx))
    | ((refine fun x hx => ?_); (obtain rfl := zs_at hx; clear hx))
    | ((refine fun x hx => ?_); (obtain rfl := ints_at hx; clear hx))
    | ((refine And.intro rfl (And.intro (by simp only [U_len, tab_len, List.length_set]; omega) ?_)))
    | ((refine ar_tdiv (by omega) (by omega) (by omega) ?_))
    | (refine Br.tt ?_)
    | (refine Br.ff ?_)
    | (refine Br.dec (fun h => ?_) (fun h => ?_)) <;> try (exfalso; omega)
    | (refine Br.neg ?_)
    | (refine Br.mk (fun h => ?_) (fun h => ?_))
    | (refine And.intro rfl ?_)
    | (refine And.intro (by omega) ?_)
    | (refine ⟨_, Or.inl ⟨⟨by omega, by omega⟩, rfl⟩, ?_⟩)
    | (refine And.intro (by simp only [lens_all, U_len, tab_len, ints_len, zs_len]; first | done | omega) ?_)
    | (refine And.intro (Nat.le_refl _) ?_)
    | fail
  · show SV.bool false = _
    rw [decide_eq_false]; intro e; subst e; omega
  refine ⟨Nat, fun k => k ≤ a.length ∧ a.take k = b.take k, fun k => [(0, U a), (1, U b), (5, .int .i64 (k : Int))], fun k => [], fun _ => none, fun k => a.length - k, ⟨0, ⟨by omega, rfl⟩, ⟨rfl, rfl, rfl, trivial⟩, trivial, rfl⟩, fun k hk => ?_⟩
  have hk' : k ≤ a.length := hk.1
  have hlen : a.length = b.length := by omega
  repeat' (conv => whnf); first
    | ((refine fun x hx => ?_); (obtain rfl := U_at hx; clear hx))
    | ((refine fun x hx => ?_); (obtain ⟨v, hv, rfl⟩ := U_get hx))
    | ((refine fun x hx => ?_); (obtain rfl := zs_at hx; clear hx))
    | ((refine fun x hx => ?_); (obtain rfl := ints_at hx; clear hx))
    | ((refine And.intro rfl (And.intro (by simp only [U_len, tab_len, List.length_set]; omega) ?_)))
    | ((refine ar_tdiv (by omega) (by omega) (by omega) ?_))
    | (refine Br.tt ?_)
    | (refine Br.ff ?_)
    | (refine Br.dec (fun h => ?_) (fun h => ?_)) <;> try (exfalso; omega)
    | (refine Br.neg ?_)
    | (refine Br.mk (fun h => ?_) (fun h => ?_))
    | (refine And.intro rfl ?_)
    | (refine And.intro (by omega) ?_)
    | (refine ⟨_, Or.inl ⟨⟨by omega, by omega⟩, rfl⟩, ?_⟩)
    | (refine And.intro (by simp only [lens_all, U_len, tab_len, ints_len, zs_len]; first | done | omega) ?_)
    | (refine And.intro (Nat.le_refl _) ?_)
    | fail
  · show SV.bool false = _
    rw [decide_eq_false]
    rintro rfl
    refine h ?_
    rfl
  · refine ⟨k + 1, ⟨(show k + 1 ≤ a.length by omega), take_more hk.2 (show a[k]? = b[k]? from by rw [getD_get 0 (show k < a.length by omega), getD_get 0 (show k < b.length by omega)]; exact congrArg some (Int.ofNat.inj (Classical.not_not.1 h)))⟩, (show a.length - (k + 1) < a.length - k by omega), ⟨rfl, rfl, rfl, trivial⟩, trivial, rfl⟩
  · have hkl : k = a.length := by omega
    show SV.bool true = _
    rw [decide_eq_true]
    have := hk.2
    rwa [hkl, List.take_length, hlen, List.take_length] at this
end
section
open Go.RowKit
attribute [local irreducible] FS FO IT HS

theorem nextI_neg {ws : List Nat} {n : Int} : nextI ws n < 0 ↔ ∀ b ∈ bits ws, (b : Int) < n := by
  unfold nextI
  cases h : (bits ws).find? (fun (b : Nat) => decide (n ≤ (b : Int))) with
  | none =>
    rw [List.find?_eq_none] at h
    simp only [decide_eq_true_eq] at h
    show (-1 : Int) < 0 ↔ _
    refine ⟨fun _ b hb => ?_, fun _ => by omega⟩
    have := h b hb; omega
  | some b =>
    have h1 := List.mem_of_find?_eq_some h
    have h2 := List.find?_some h
    simp only [decide_eq_true_eq] at h2
    show (b : Int) < 0 ↔ _
    refine ⟨fun hh => by omega, fun hh => ?_⟩
    have := hh b h1; omega

/-- A set of so many places. -/
def rightB (ws : List Nat) (n : Int) : Bool := decide (0 ≤ n) && (decide (n ≤ 4096) && (decide ((ws.length : Int) = wordsI n) && decide (nextI ws n < 0)))
end
section
open Go.RowKit
attribute [local irreducible] FS FO IT HS

theorem pc_eq (b v : Nat) (h : v < 2 ^ b) : pc v = ((List.range b).filter fun j => v.testBit j).length := by
  have : ∀ (b v i : Nat), v < 2 ^ b → (wbits v i).length = pc v := by
    intro b
    induction b with
    | zero => intro v i hv; have : v = 0 := by simpa using hv
              subst this; simp [wbits_zero, pc_zero]
    | succ b ih =>
      intro v i hv
      rcases Nat.eq_zero_or_pos v with h | h
      · subst h; simp [wbits_zero, pc_zero]
      · rw [wbits_step h, List.length_append, ih (v / 2) (i + 1) (by rw [Nat.pow_succ] at hv; omega), pc_step v]
        rcases Nat.mod_two_eq_zero_or_one v with h1 | h1 <;> simp [h1]
  rw [← this b v 0 h, wbits_eq b v 0 h]
  simp

/-- How many places there are in some first ones. -/
theorem count_words : ∀ (ws : List Nat), Wd ws → cnt ws = ((List.range (64 * ws.length)).filter (hasN ws)).length
  | [], _ => by simp [cnt]
  | v :: ws, h => by
    have h2 := count_words ws fun x hx => h x (by simp [hx])
    have h1 := pc_eq 64 v (by simpa using h v (by simp))
    have e1 : ((List.range 64).filter fun j => v.testBit j) = (List.range 64).filter (hasN (v :: ws)) := List.filter_congr fun j hj => by
      rw [hasN_cons_lt (List.mem_range.1 hj)]
    have e : (hasN (v :: ws) ∘ fun x => 64 + x) = hasN ws := by
      funext j; exact hasN_cons_ge v ws j
    rw [List.length_cons, show 64 * (ws.length + 1) = 64 + 64 * ws.length by omega, List.range_add, List.filter_append, List.length_append, List.filter_map, e, List.length_map, ← e1, ← h1, ← h2]
    simp [cnt]
theorem hasN_set {ws : List Nat} {k v i : Nat} (hk : k < ws.length) : hasN (ws.set k v) i = if i / 64 = k then v.testBit (i % 64) else hasN ws i := by
  unfold hasN
  rw [List.getD_eq_getElem?_getD, List.getElem?_set]
  by_cases e : k = i / 64
  · subst e; simp [hk]
  · rw [if_neg e, if_neg (Ne.symm e), List.getD_eq_getElem?_getD]
theorem hasN_put1 (ws : List Nat) (j : Int) (i : Nat) : hasN (put1 ws j) i = (hasN ws i || (decide ((i : Int) = j) && decide (i < 64 * ws.length))) := by
  unfold put1 turn
  split
  · rename_i h
    have h0 : 0 ≤ j := by simp [inW] at h; exact h.1
    have h1 : j / 64 < ws.length := by simp [inW] at h; exact h.2
    obtain ⟨n, rfl⟩ : ∃ n : Nat, j = n := ⟨j.toNat, by omega⟩
    have e0 : ((n : Int) / 64).toNat = n / 64 := by omega
    rw [e0, Int.toNat_natCast, hasN_set (by omega)]
    by_cases e : i / 64 = n / 64
    · rw [if_pos e, Nat.testBit_or, Nat.testBit_two_pow]
      unfold hasN
      rw [e]
      congr 1
      by_cases e2 : n % 64 = i % 64
      · have : i = n := by omega
        subst this; simp; omega
      · have : ¬ (i : Int) = n := by omega
        simp [e2, this]
    · rw [if_neg e]
      have : ¬ (i : Int) = n := by omega
      simp [this]
  · rename_i h
    have : ¬ ((i : Int) = j ∧ i < 64 * ws.length) := by
      rintro ⟨rfl, h2⟩
      exact h (by simp [inW]; omega)
    by_cases h1 : (i : Int) = j
    · have : ¬ i < 64 * ws.length := fun h2 => this ⟨h1, h2⟩
      simp [this]
    · simp [h1]
theorem hasN_zero (n : Nat) (i : Nat) : hasN (List.replicate n 0) i = false := by
  unfold hasN
  rw [List.getD_eq_getElem?_getD, List.getElem?_replicate]
  split <;> simp
theorem hasN_puts (p : Int → Option Int) : ∀ (l : List Int) (ws : List Nat) (i : Nat), hasN (puts p ws l) i = (hasN ws i || (decide (i < 64 * ws.length) && l.any fun x => p x == some (i : Int)))
  | [], ws, i => by simp [puts]
  | x :: l, ws, i => by
    have := hasN_puts p l (match p x with | some j => put1 ws j | none => ws) i
    show hasN (puts p (match p x with | some j => put1 ws j | none => ws) l) i = _
    rw [this, List.any_cons]
    cases hx : p x with
    | none => simp
    | some j =>
      simp only [hasN_put1, put1_len]
      have : (some j == some (i : Int)) = decide ((i : Int) = j) := by
        rw [Bool.eq_iff_iff, beq_iff_eq, Option.some.injEq, decide_eq_true_iff]
        exact eq_comm
      rw [this]
      cases hasN ws i <;> cases decide ((i : Int) = j) <;> cases decide (i < 64 * ws.length) <;> simp
end
section
open Go.RowKit
attribute [local irreducible] FS FO IT HS

theorem cnt_of {ws : List Nat} (n : Nat) (hw : Wd ws) (h : ((List.range (64 * ws.length)).filter (hasN ws)).length = n) : FS Try.prog 9 [U ws] (.int .i64 (n : Int)) ∨ 1000000 < ws.length := by
  by_cases hl : ws.length ≤ 1000000
  · have := fs_Count ws hw hl
    rw [count_words ws hw, h] at this
    exact .inl this
  · exact .inr (by omega)
end
section
open Go.RowKit
attribute [local irreducible] FS FO IT HS

theorem fs_Right' (ws : List Nat) (hw : Wd ws) (hl : ws.length ≤ 1000000) (n : Int) (h0 : -9223372036854775808 ≤ n) (h1 : n ≤ 9223372036854775807) : FS Try.prog 12 [U ws, .int .i64 n] (.bool (rightB ws n)) := fs_Right ws hw hl n h0 h1
theorem zs_take (l : List Int) (k : Nat) : (zs l).take k = zs (l.take k) := by simp [zs, List.map_take]
end
section
open Go.RowKit
attribute [local irreducible] FS FO IT HS
end
section
open Go.RowKit
attribute [local irreducible] FS FO IT HS

/-! ### In plain words -/
theorem hasI_nat (ws : List Nat) (x : Nat) : hasI ws (x : Int) = hasN ws x := by simp [hasI]
theorem hasN_ofN {n : Int} {l : List Int} {i : Nat} (h : hasN (ofN n l) i = true) : (i : Int) < n ∧ i < 64 * wordsI n := by
  rw [ofN, hasN_puts, hasN_zero, Bool.false_or, List.length_replicate, Bool.and_eq_true, decide_eq_true_eq, List.any_eq_true] at h
  obtain ⟨h1, x, _, hx⟩ := h
  refine ⟨?_, h1⟩
  by_cases hn : x < n
  · rw [if_pos hn] at hx
    have : x = i := by simpa using hx
    omega
  · rw [if_neg hn] at hx; simp at hx
theorem wd_ofN (n : Int) (l : List Int) : Wd (ofN n l) := puts_wd _ _ _ (wd_zero _)
theorem ofN_len (n : Int) (l : List Int) : (ofN n l).length = wordsI n := by rw [ofN, puts_len, List.length_replicate]
end
end Go.Proofs.Yticahmkeanbjfaa
