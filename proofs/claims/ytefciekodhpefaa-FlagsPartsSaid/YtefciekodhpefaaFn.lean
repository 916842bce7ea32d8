/- The laws on sets of places: ranks, sets, parts. -/
import Derived.Test.YtefciekodhpefaaFm
namespace Go.Proofs.Ytefciekodhpefaa
open Go.RowKit
attribute [local irreducible] FS FO IT HS

/-! ### In plain words -/
theorem hasI_nat (ws : List Nat) (x : Nat) : hasI ws (x : Int) = hasN ws x := by simp [hasI]
theorem rank_at {ws : List Nat} (h : Wd ws) {k : Nat} (hk : k < (bits ws).length) : rankN ws (((bits ws).getD k 0 : Nat) : Int) = k := by
  have hs := bits_sorted h
  unfold rankN
  generalize bits ws = l at hs hk
  have e : l.filter (fun (b : Nat) => decide ((b : Int) < ((l.getD k 0 : Nat) : Int))) = l.take k := by
    conv => lhs; rw [← List.take_append_drop k l]
    rw [List.filter_append]
    have hlk : l.getD k 0 = l[k] := by rw [List.getD_eq_getElem?_getD, List.getElem?_eq_getElem hk]; rfl
    have e1 : (l.take k).filter (fun (b : Nat) => decide ((b : Int) < (((l.take k ++ l.drop k).getD k 0 : Nat) : Int))) = l.take k := by
      rw [List.take_append_drop, List.filter_eq_self]
      intro a ha
      obtain ⟨i, hi, rfl⟩ := List.getElem_of_mem ha
      have hi' : i < k := by simp at hi; omega
      have := List.pairwise_iff_getElem.1 hs i k (by omega) hk hi'
      rw [List.getElem_take, hlk]; simp; exact this
    have e2 : (l.drop k).filter (fun (b : Nat) => decide ((b : Int) < (((l.take k ++ l.drop k).getD k 0 : Nat) : Int))) = [] := by
      rw [List.take_append_drop, List.filter_eq_nil_iff]
      intro a ha
      obtain ⟨i, hi, rfl⟩ := List.getElem_of_mem ha
      have hi' : k + i < l.length := by simp at hi; omega
      rw [List.getElem_drop, hlk]
      rcases Nat.eq_zero_or_pos i with h0 | h0
      · subst h0; simp
      · have := List.pairwise_iff_getElem.1 hs k (k + i) hk hi' (by omega)
        simp; omega
    rw [e1, e2, List.append_nil]
  rw [e, List.length_take]; omega
theorem next_at {ws : List Nat} (h : Wd ws) {k : Nat} (hk : k < (bits ws).length) : nextI ws (((bits ws).getD k 0 : Nat) : Int) = (((bits ws).getD k 0 : Nat) : Int) := by
  have hs := bits_sorted h
  have hlk : (bits ws).getD k 0 = (bits ws)[k] := by rw [List.getD_eq_getElem?_getD, List.getElem?_eq_getElem hk]; rfl
  rw [nextI, find_at (getD_get 0 hk) (by simp) fun j x hj hx => by
    obtain ⟨hj', rfl⟩ := List.getElem?_eq_some_iff.1 hx
    have := List.pairwise_iff_getElem.1 hs j k hj' hk hj
    rw [hlk]; simp; exact this]
theorem has_at {ws : List Nat} (h : Wd ws) {k : Nat} (hk : k < (bits ws).length) : hasI ws (((bits ws).getD k 0 : Nat) : Int) = true := by
  rw [hasI_nat]
  exact ((bits_mem h).1 (List.mem_of_getElem? (getD_get 0 hk))).2

def ir_fretworklaw03_FlagsRanks : IR :=
(.seq
 (.reg (⟨(some 2), .mv (.c (.bool false)), none⟩ ::
   []))
 (.seq
  (.reg (⟨(some 5), .mv (.t 0), none⟩ ::
    ⟨(some 6), .call (.c (.fn 10 [])) [(.t 5)], none⟩ ::
    ⟨(some 0), .mv (.t 6), none⟩ ::
    []))
  (.seq
   (.reg (⟨(some 7), .mv (.t 0), none⟩ ::
     ⟨(some 8), .call (.c (.fn 32 [])) [(.t 7)], none⟩ ::
     ⟨(some 3), .mv (.t 8), none⟩ ::
     []))
   (.seq
    (.seq
     (.reg (⟨(some 4), .mv (.c (.int .i64 0)), none⟩ ::
       []))
     (.block 0
      (.loop
       (.seq
        (.seq
         (.reg (⟨(some 9), .mv (.t 4), none⟩ ::
           ⟨(some 10), .mv (.t 3), none⟩ ::
           ⟨(some 11), .ln (.t 10), none⟩ ::
           ⟨(some 12), .bin .lss (.t 9) (.t 11), none⟩ ::
           []))
         (.cond (.t 12)
          .skip
          (.exit 0)))
        (.seq
         (.block 1
          (.seq
           (.draw (⟨(some 15), .mv (.t 4), none⟩ ::
             ⟨(some 16), .bin .gtr (.t 15) (.c (.int .i64 0)), none⟩ ::
             ⟨(some 17), .mv (.t 16), none⟩ ::
             ⟨(some 18), .mv (.t 3), some (17, true)⟩ ::
             ⟨(some 19), .mv (.t 4), some (17, true)⟩ ::
             ⟨(some 20), .ia 1 (.t 18) (.t 19), some (17, true)⟩ ::
             ⟨(some 21), .ld 1 false (.t 20), some (17, true)⟩ ::
             ⟨(some 22), .mv (.t 3), some (17, true)⟩ ::
             ⟨(some 23), .mv (.t 4), some (17, true)⟩ ::
             ⟨(some 24), .bin .sub (.t 23) (.c (.int .i64 1)), some (17, true)⟩ ::
             ⟨(some 25), .ia 1 (.t 22) (.t 24), some (17, true)⟩ ::
             ⟨(some 26), .ld 1 false (.t 25), some (17, true)⟩ ::
             ⟨(some 27), .bin .leq (.t 21) (.t 26), some (17, true)⟩ ::
             ⟨(some 28), .pick (.t 17) (.t 27) (.c (.bool false)), none⟩ ::
             ⟨(some 29), .mv (.t 28), none⟩ ::
             ⟨(some 30), .mv (.t 0), some (29, false)⟩ ::
             ⟨(some 31), .mv (.t 3), some (29, false)⟩ ::
             ⟨(some 32), .mv (.t 4), some (29, false)⟩ ::
             ⟨(some 33), .ia 1 (.t 31) (.t 32), some (29, false)⟩ ::
             ⟨(some 34), .ld 1 false (.t 33), some (29, false)⟩ ::
             ⟨(some 35), .call (.c (.fn 27 [])) [(.t 30), (.t 34)], some (29, false)⟩ ::
             ⟨(some 36), .mv (.t 4), some (29, false)⟩ ::
             ⟨(some 37), .bin .neq (.t 35) (.t 36), some (29, false)⟩ ::
             ⟨(some 38), .pick (.t 29) (.c (.bool true)) (.t 37), none⟩ ::
             ⟨(some 39), .mv (.t 38), none⟩ ::
             ⟨(some 40), .mv (.t 0), some (39, false)⟩ ::
             ⟨(some 41), .mv (.t 3), some (39, false)⟩ ::
             ⟨(some 42), .mv (.t 4), some (39, false)⟩ ::
             ⟨(some 43), .ia 1 (.t 41) (.t 42), some (39, false)⟩ ::
             ⟨(some 44), .ld 1 false (.t 43), some (39, false)⟩ ::
             ⟨(some 45), .call (.c (.fn 29 [])) [(.t 40), (.t 44)], some (39, false)⟩ ::
             ⟨(some 46), .mv (.t 3), some (39, false)⟩ ::
             ⟨(some 47), .mv (.t 4), some (39, false)⟩ ::
             ⟨(some 48), .ia 1 (.t 46) (.t 47), some (39, false)⟩ ::
             ⟨(some 49), .ld 1 false (.t 48), some (39, false)⟩ ::
             ⟨(some 50), .bin .neq (.t 45) (.t 49), some (39, false)⟩ ::
             ⟨(some 51), .pick (.t 39) (.c (.bool true)) (.t 50), none⟩ ::
             ⟨(some 52), .mv (.t 51), none⟩ ::
             ⟨(some 53), .mv (.t 0), some (52, false)⟩ ::
             ⟨(some 54), .mv (.t 3), some (52, false)⟩ ::
             ⟨(some 55), .mv (.t 4), some (52, false)⟩ ::
             ⟨(some 56), .ia 1 (.t 54) (.t 55), some (52, false)⟩ ::
             ⟨(some 57), .ld 1 false (.t 56), some (52, false)⟩ ::
             ⟨(some 58), .call (.c (.fn 19 [])) [(.t 53), (.t 57)], some (52, false)⟩ ::
             ⟨(some 59), .un .not (.t 58), some (52, false)⟩ ::
             ⟨(some 60), .pick (.t 52) (.c (.bool true)) (.t 59), none⟩ ::
             [])
            ([]))
           (.cond (.t 60)
            (.seq
             (.reg (⟨(some 2), .mv (.c (.bool false)), none⟩ ::
               []))
             .ret)
            .skip)))
         (.reg (⟨(some 13), .mv (.t 4), none⟩ ::
           ⟨(some 14), .bin .add (.t 13) (.c (.int .i64 1)), none⟩ ::
           ⟨(some 4), .mv (.t 14), none⟩ ::
           [])))))))
    (.seq
     (.reg (⟨(some 61), .call (.c (.fn 11 [])) [], none⟩ ::
       ⟨(some 62), .mv (.t 61), none⟩ ::
       ⟨(some 63), .mv (.t 0), some (62, true)⟩ ::
       ⟨(some 64), .call (.c (.fn 26 [])) [(.t 63)], some (62, true)⟩ ::
       ⟨(some 65), .mv (.t 3), some (62, true)⟩ ::
       ⟨(some 66), .ln (.t 65), some (62, true)⟩ ::
       ⟨(some 67), .bin .eql (.t 64) (.t 66), some (62, true)⟩ ::
       ⟨(some 68), .pick (.t 62) (.t 67) (.c (.bool false)), none⟩ ::
       ⟨(some 2), .mv (.t 68), none⟩ ::
       []))
     .ret)))))
theorem cd_fretworklaw03_FlagsRanks : Code1 Try.prog 6 69 ir_fretworklaw03_FlagsRanks [.t 2] := ⟨Try.call6, _, _, Try.func6, rfl, by kernel_rfl, by kernel_rfl, by kernel_rfl, by kernel_rfl⟩

set_option maxHeartbeats 4000000 in
theorem fs_FlagsRanks (ws : List Nat) (hw : Wd ws) : FS Try.prog 6 [U ws] (.bool true) := by
  refine fs_of_cvc mixed cd_fretworklaw03_FlagsRanks (by simp) ?_
  have hfw : Wd (ws.take 8) := wd_take hw 8
  have hfl : (ws.take 8).length ≤ 8 := by simp; omega
  refine Or.inl ⟨by rfl, _, fs_few ws, ?_⟩
  generalize ws.take 8 = f at hfw hfl
  refine Or.inl ⟨by rfl, _, fs_List f hfw (by omega), ?_⟩
  have hbl := bits_len f hfw
  have hil := ints_len (bits f)
  refine ⟨Nat, fun k => k ≤ (bits f).length, fun k => [(0, U f), (3, I (bits f)), (4, .int .i64 (k : Int))], fun k => [], fun _ => none, fun k => (bits f).length - k, ⟨0, by omega, ⟨rfl, rfl, rfl, trivial⟩, trivial, rfl⟩, fun k hk => ?_⟩
  have hk' : k ≤ (bits f).length := hk
  by_cases hlt : k < (bits f).length
  · have hbk := ((bits_mem hfw).1 (List.mem_of_getElem? (getD_get 0 hlt))).1
    have hbk' : (bits f).getD ((k : Int).toNat) 0 < 64 * f.length := hbk
    have c1 := fs_RankN f hfw (by omega) (((bits f).getD ((k : Int).toNat) 0 : Nat) : Int) (by omega)
    rw [show rankN f (((bits f).getD ((k : Int).toNat) 0 : Nat) : Int) = k from rank_at hfw hlt] at c1
    have c2 := fs_Next f hfw (by omega) (((bits f).getD ((k : Int).toNat) 0 : Nat) : Int)
    rw [show nextI f (((bits f).getD ((k : Int).toNat) 0 : Nat) : Int) = (((bits f).getD ((k : Int).toNat) 0 : Nat) : Int) from next_at hfw hlt] at c2
    have c3 := fs_Has f hfw (((bits f).getD ((k : Int).toNat) 0 : Nat) : Int) (by omega)
    rw [show hasI f (((bits f).getD ((k : Int).toNat) 0 : Nat) : Int) = true from has_at hfw hlt] at c3
    have hs : 0 < k → (bits f).getD ((k : Int) - 1).toNat 0 < (bits f).getD ((k : Int).toNat) 0 := fun h0 => by
      have e : ((k : Int) - 1).toNat = k - 1 := by omega
      have := List.pairwise_iff_getElem.1 (bits_sorted hfw) (k - 1) k (by omega) hlt (by omega)
      rw [e]
      show (bits f).getD (k - 1) 0 < (bits f).getD k 0
      rw [List.getD_eq_getElem?_getD, List.getElem?_eq_getElem (show k - 1 < (bits f).length by omega), List.getD_eq_getElem?_getD, List.getElem?_eq_getElem hlt]
      exact this
    have hs' : k = 0 ∨ (bits f).getD ((k : Int) - 1).toNat 0 < (bits f).getD ((k : Int).toNat) 0 := by
      rcases Nat.eq_zero_or_pos k with h0 | h0
      · exact .inl h0
      · exact .inr (hs h0)
    repeat' (conv => whnf); first
      | ((refine Or.inl ⟨by rfl, _, c1, ?_⟩))
      | ((refine Or.inl ⟨by rfl, _, c2, ?_⟩))
      | ((refine Or.inl ⟨by rfl, _, c3, ?_⟩))
      | ((refine fun x hx => ?_); (obtain rfl := U_at hx; clear hx))
      | ((refine fun x hx => ?_); (obtain rfl := zs_at hx; clear hx))
      | ((refine fun x hx => ?_); (obtain rfl := ints_at hx; clear hx))
      | ((refine And.intro rfl (And.intro (by simp only [U_len, tab_len, List.length_set]; omega) ?_)))
      | ((refine ar_tdiv (by omega) (by omega) (by omega) ?_))
      | ((refine Br.beq (by rfl) ?_))
      | (refine Br.tt ?_)
      | (refine Br.ff ?_)
      | (refine Br.dec (fun h => ?_) (fun h => ?_)) <;> try (exfalso; omega)
      | (refine Br.neg ?_)
      | (refine Br.mk (fun h => ?_) (fun h => ?_))
      | (refine And.intro rfl ?_)
      | (refine And.intro (by omega) ?_)
      | (refine ⟨_, Or.inl ⟨⟨by omega, by omega⟩, rfl⟩, ?_⟩)
      | (refine And.intro (by simp only [List.length_map, List.length_replicate, List.length_set, List.length_append, List.length_take, List.length_drop, List.length_cons, List.length_nil, U_len, tab_len, ints_len, zs_len]; first | done | omega) ?_)
      | (refine And.intro (Nat.le_refl _) ?_)
      | fail
    all_goals exact ⟨k + 1, (show k + 1 ≤ (bits f).length by omega), (show (bits f).length - (k + 1) < (bits f).length - k by omega), ⟨rfl, rfl, rfl, trivial⟩, trivial, rfl⟩
  · repeat' (conv => whnf); first
      | ((refine Or.inl ⟨by rfl, _, fs_live, ?_⟩))
      | ((refine Or.inl ⟨by rfl, _, fs_CountN f hfw (by omega), ?_⟩))
      | ((refine fun x hx => ?_); (obtain rfl := U_at hx; clear hx))
      | ((refine fun x hx => ?_); (obtain rfl := zs_at hx; clear hx))
      | ((refine fun x hx => ?_); (obtain rfl := ints_at hx; clear hx))
      | ((refine And.intro rfl (And.intro (by simp only [U_len, tab_len, List.length_set]; omega) ?_)))
      | ((refine ar_tdiv (by omega) (by omega) (by omega) ?_))
      | ((refine Br.beq (by rfl) ?_))
      | (refine Br.tt ?_)
      | (refine Br.ff ?_)
      | (refine Br.dec (fun h => ?_) (fun h => ?_)) <;> try (exfalso; omega)
      | (refine Br.neg ?_)
      | (refine Br.mk (fun h => ?_) (fun h => ?_))
      | (refine And.intro rfl ?_)
      | (refine And.intro (by omega) ?_)
      | (refine ⟨_, Or.inl ⟨⟨by omega, by omega⟩, rfl⟩, ?_⟩)
      | (refine And.intro (by simp only [List.length_map, List.length_replicate, List.length_set, List.length_append, List.length_take, List.length_drop, List.length_cons, List.length_nil, U_len, tab_len, ints_len, zs_len]; first | done | omega) ?_)
      | (refine And.intro (Nat.le_refl _) ?_)
      | fail
    show SV.bool (decide (((bits f).length : Int) = ((ints (bits f)).length : Int))) = SV.bool true
    rw [hil]; simp

theorem hasN_ofN {n : Int} {l : List Int} {i : Nat} (h : hasN (ofN n l) i = true) : (i : Int) < n ∧ i < 64 * wordsI n := by
  rw [ofN, hasN_puts, hasN_zero, Bool.false_or, List.length_replicate, Bool.and_eq_true, decide_eq_true_eq, List.any_eq_true] at h
  obtain ⟨h1, x, _, hx⟩ := h
  refine ⟨?_, h1⟩
  by_cases hn : x < n
  · rw [if_pos hn] at hx
    have : x = i := by simpa using hx
    omega
  · rw [if_neg hn] at hx; simp at hx
theorem wd_ofN (n : Int) (l : List Int) : Wd (ofN n l) := puts_wd _ _ _ (wd_zero _)
theorem ofN_len (n : Int) (l : List Int) : (ofN n l).length = wordsI n := by rw [ofN, puts_len, List.length_replicate]

theorem joinU_comm {a b : List Nat} (ha : Wd a) (hb : Wd b) : joinU a b = joinU b a := by
  refine words_ext (wd_joinU ha hb) (wd_joinU hb ha) (by simp [joinU, tab_len]; omega) fun i _ => ?_
  rw [hasN_joinU, hasN_joinU, Bool.or_comm]
theorem joinB_comm {a b : List Nat} (ha : Wd a) (hb : Wd b) (hl : a.length = b.length) : joinB a b = joinB b a := by
  refine words_ext (wd_joinB ha) (wd_joinB hb) (by simp [joinB, tab_len, hl]) fun i _ => ?_
  rw [hasN_joinB, hasN_joinB, Bool.and_comm]
theorem join_rest {a b : List Nat} (ha : Wd a) (hb : Wd b) : joinU (joinB a b) (joinM a b) = a := by
  refine words_ext (wd_joinU (wd_joinB ha) (wd_joinM ha)) ha (by simp [joinU, joinB, joinM, tab_len]) fun i _ => ?_
  rw [hasN_joinU, hasN_joinB, hasN_joinM hb]
  cases hasN a i <;> cases hasN b i <;> rfl
theorem join_none {a b : List Nat} (ha : Wd a) (hb : Wd b) : bits (joinB (joinB a b) (joinM a b)) = [] := by
  rw [bits_eq (wd_joinB (wd_joinB ha)), List.filter_eq_nil_iff]
  intro i _
  rw [hasN_joinB, hasN_joinB, hasN_joinM hb]
  cases hasN a i <;> cases hasN b i <;> simp
theorem flip_flip {a : List Nat} (ha : Wd a) {n : Int} (hl : a.length = wordsI n) (hn : ∀ i, hasN a i = true → (i : Int) < n) : flipN (flipN a n) n = a := by
  refine words_ext (wd_flipN _ n) ha (by rw [flipN_len, hl]) fun i hi => ?_
  rw [flipN_len] at hi
  rw [hasN_flipN (wd_flipN a n), hasN_flipN ha]
  have := hn i
  cases h : hasN a i
  · cases h2 : decide ((i : Int) < n) <;> simp [hi]
  · simp [hi, this h]
theorem filter_split (p q : Nat → Bool) (h : ∀ i, p i = true → q i = true) (l : List Nat) : (l.filter p).length + (l.filter fun i => q i && !p i).length = (l.filter q).length := by
  induction l with
  | nil => rfl
  | cons x l ih =>
    have := h x
    cases hp : p x <;> cases hq : q x <;> simp_all [List.filter_cons] <;> omega
theorem flip_count {a : List Nat} (ha : Wd a) {n : Nat} (hl : a.length = wordsI n) (hn : ∀ i, hasN a i = true → i < n) (hb : n ≤ 64 * wordsI n) : (bits a).length + (bits (flipN a n)).length = n := by
  rw [bits_eq ha, bits_eq (wd_flipN a n), flipN_len, hl]
  have e : (List.range (64 * wordsI n)).filter (hasN (flipN a n)) = (List.range (64 * wordsI n)).filter fun i => decide (i < n) && !hasN a i := List.filter_congr fun i hi => by
    have hi := List.mem_range.1 hi
    rw [hasN_flipN ha]; simp [hi]
  rw [e, filter_split (hasN a) (fun i => decide (i < n)) (fun i h => by simpa using hn i h)]
  have := filter_lt_range (fun _ => true) n (64 * wordsI n) hb
  have e2 : ∀ l : List Nat, l.filter (fun _ => true) = l := fun l => by simp
  rw [e2, e2] at this
  rw [this, List.length_range]

def ir_fretworklaw03_FlagsSets : IR :=
(.seq
 (.reg (⟨(some 6), .mv (.c (.bool false)), none⟩ ::
   []))
 (.seq
  (.reg (⟨(some 12), .mv (.t 2), none⟩ ::
    ⟨(some 13), .bin .rem (.t 12) (.c (.int .u16 500)), none⟩ ::
    ⟨(some 14), .cv .i64 (.t 13), none⟩ ::
    ⟨(some 7), .mv (.t 14), none⟩ ::
    []))
  (.seq
   (.reg (⟨(some 15), .mv (.t 7), none⟩ ::
     ⟨(some 16), .mv (.t 0), none⟩ ::
     ⟨(some 17), .call (.c (.fn 10 [])) [(.t 16)], none⟩ ::
     ⟨(some 18), .call (.c (.fn 25 [])) [(.t 17)], none⟩ ::
     ⟨(some 19), .call (.c (.fn 16 [])) [(.t 15), (.t 18)], none⟩ ::
     ⟨(some 20), .mv (.t 7), none⟩ ::
     ⟨(some 21), .mv (.t 1), none⟩ ::
     ⟨(some 22), .call (.c (.fn 10 [])) [(.t 21)], none⟩ ::
     ⟨(some 23), .call (.c (.fn 25 [])) [(.t 22)], none⟩ ::
     ⟨(some 24), .call (.c (.fn 16 [])) [(.t 20), (.t 23)], none⟩ ::
     ⟨(some 8), .mv (.t 19), none⟩ ::
     ⟨(some 9), .mv (.t 24), none⟩ ::
     []))
   (.seq
    (.reg (⟨(some 25), .mv (.t 8), none⟩ ::
      ⟨(some 26), .mv (.t 9), none⟩ ::
      ⟨(some 27), .call (.c (.fn 35 [])) [(.t 25), (.t 26)], none⟩ ::
      ⟨(some 28), .mv (.t 8), none⟩ ::
      ⟨(some 29), .mv (.t 9), none⟩ ::
      ⟨(some 30), .call (.c (.fn 37 [])) [(.t 28), (.t 29)], none⟩ ::
      ⟨(some 10), .mv (.t 27), none⟩ ::
      ⟨(some 11), .mv (.t 30), none⟩ ::
      []))
    (.seq
     (.reg (⟨(some 31), .call (.c (.fn 11 [])) [], none⟩ ::
       ⟨(some 32), .mv (.t 31), none⟩ ::
       ⟨(some 33), .mv (.t 8), some (32, true)⟩ ::
       ⟨(some 34), .mv (.t 9), some (32, true)⟩ ::
       ⟨(some 35), .call (.c (.fn 33 [])) [(.t 33), (.t 34)], some (32, true)⟩ ::
       ⟨(some 36), .mv (.t 9), some (32, true)⟩ ::
       ⟨(some 37), .mv (.t 8), some (32, true)⟩ ::
       ⟨(some 38), .call (.c (.fn 33 [])) [(.t 36), (.t 37)], some (32, true)⟩ ::
       ⟨(some 39), .call (.c (.fn 12 [])) [(.t 35), (.t 38)], some (32, true)⟩ ::
       ⟨(some 40), .pick (.t 32) (.t 39) (.c (.bool false)), none⟩ ::
       ⟨(some 41), .mv (.t 40), none⟩ ::
       ⟨(some 42), .mv (.t 10), some (41, true)⟩ ::
       ⟨(some 43), .mv (.t 9), some (41, true)⟩ ::
       ⟨(some 44), .mv (.t 8), some (41, true)⟩ ::
       ⟨(some 45), .call (.c (.fn 35 [])) [(.t 43), (.t 44)], some (41, true)⟩ ::
       ⟨(some 46), .call (.c (.fn 12 [])) [(.t 42), (.t 45)], some (41, true)⟩ ::
       ⟨(some 47), .pick (.t 41) (.t 46) (.c (.bool false)), none⟩ ::
       ⟨(some 48), .mv (.t 47), none⟩ ::
       ⟨(some 49), .mv (.t 10), some (48, true)⟩ ::
       ⟨(some 50), .mv (.t 11), some (48, true)⟩ ::
       ⟨(some 51), .call (.c (.fn 33 [])) [(.t 49), (.t 50)], some (48, true)⟩ ::
       ⟨(some 52), .mv (.t 8), some (48, true)⟩ ::
       ⟨(some 53), .call (.c (.fn 12 [])) [(.t 51), (.t 52)], some (48, true)⟩ ::
       ⟨(some 54), .pick (.t 48) (.t 53) (.c (.bool false)), none⟩ ::
       ⟨(some 55), .mv (.t 54), none⟩ ::
       ⟨(some 56), .mv (.t 10), some (55, true)⟩ ::
       ⟨(some 57), .mv (.t 11), some (55, true)⟩ ::
       ⟨(some 58), .call (.c (.fn 35 [])) [(.t 56), (.t 57)], some (55, true)⟩ ::
       ⟨(some 59), .call (.c (.fn 26 [])) [(.t 58)], some (55, true)⟩ ::
       ⟨(some 60), .bin .eql (.t 59) (.c (.int .i64 0)), some (55, true)⟩ ::
       ⟨(some 61), .pick (.t 55) (.t 60) (.c (.bool false)), none⟩ ::
       ⟨(some 62), .mv (.t 61), none⟩ ::
       ⟨(some 63), .mv (.t 8), some (62, true)⟩ ::
       ⟨(some 64), .mv (.t 7), some (62, true)⟩ ::
       ⟨(some 65), .call (.c (.fn 39 [])) [(.t 63), (.t 64)], some (62, true)⟩ ::
       ⟨(some 66), .mv (.t 7), some (62, true)⟩ ::
       ⟨(some 67), .call (.c (.fn 39 [])) [(.t 65), (.t 66)], some (62, true)⟩ ::
       ⟨(some 68), .mv (.t 8), some (62, true)⟩ ::
       ⟨(some 69), .call (.c (.fn 12 [])) [(.t 67), (.t 68)], some (62, true)⟩ ::
       ⟨(some 70), .pick (.t 62) (.t 69) (.c (.bool false)), none⟩ ::
       ⟨(some 71), .mv (.t 70), none⟩ ::
       ⟨(some 72), .mv (.t 8), some (71, true)⟩ ::
       ⟨(some 73), .call (.c (.fn 26 [])) [(.t 72)], some (71, true)⟩ ::
       ⟨(some 74), .mv (.t 8), some (71, true)⟩ ::
       ⟨(some 75), .mv (.t 7), some (71, true)⟩ ::
       ⟨(some 76), .call (.c (.fn 39 [])) [(.t 74), (.t 75)], some (71, true)⟩ ::
       ⟨(some 77), .call (.c (.fn 26 [])) [(.t 76)], some (71, true)⟩ ::
       ⟨(some 78), .bin .add (.t 73) (.t 77), some (71, true)⟩ ::
       ⟨(some 79), .mv (.t 7), some (71, true)⟩ ::
       ⟨(some 80), .bin .eql (.t 78) (.t 79), some (71, true)⟩ ::
       ⟨(some 81), .pick (.t 71) (.t 80) (.c (.bool false)), none⟩ ::
       ⟨(some 6), .mv (.t 81), none⟩ ::
       []))
     .ret)))))
theorem cd_fretworklaw03_FlagsSets : Code1 Try.prog 7 82 ir_fretworklaw03_FlagsSets [.t 6] := ⟨Try.call7, _, _, Try.func7, rfl, by kernel_rfl, by kernel_rfl, by kernel_rfl, by kernel_rfl⟩

set_option maxHeartbeats 4000000 in
theorem fs_FlagsSets (a b : List Nat) (ha : Wd a) (hb : Wd b) (n : Nat) (hn : n < 65536) : FS Try.prog 7 [U a, U b, .int .u16 (n : Int)] (.bool true) := by
  refine fs_of_cvc mixed cd_fretworklaw03_FlagsSets (by simp) ?_
  have e : (n : Int).tmod 500 = ((n % 500 : Nat) : Int) := by rw [Int.tmod_eq_emod_of_nonneg (by omega)]; omega
  have haw : Wd (a.take 8) := wd_take ha 8
  have hal : (a.take 8).length ≤ 8 := by simp; omega
  have hbw : Wd (b.take 8) := wd_take hb 8
  have hbl : (b.take 8).length ≤ 8 := by simp; omega
  generalize hk : n % 500 = k at e
  have hk5 : k < 500 := by rw [← hk]; exact Nat.mod_lt _ (by omega)
  have hwk : wordsI k ≤ 8 := by unfold wordsI; omega
  have hwk2 : k ≤ 64 * wordsI k := by unfold wordsI; omega
  generalize hx : ofN k ((bits (a.take 8)).map fun (b : Nat) => (b : Int)) = x
  generalize hy : ofN k ((bits (b.take 8)).map fun (b : Nat) => (b : Int)) = y
  have zb : ∀ {f : List Nat}, Wd f → f.length ≤ 8 → ∀ z ∈ (bits f).map fun (b : Nat) => (b : Int), -9223372036854775808 ≤ z ∧ z ≤ 9223372036854775807 := fun hf hl z hz => by
    obtain ⟨i, hi, rfl⟩ := List.mem_map.1 hz
    have := ((bits_mem hf).1 hi).1
    omega
  have zl : ∀ {f : List Nat}, Wd f → f.length ≤ 8 → ((bits f).map fun (b : Nat) => (b : Int)).length ≤ 1000000000 := fun hf hl => by
    have := bits_len _ hf
    simp; omega
  have hwx : Wd x := by rw [← hx]; exact wd_ofN _ _
  have hwy : Wd y := by rw [← hy]; exact wd_ofN _ _
  have hlx : x.length = wordsI k := by rw [← hx]; exact ofN_len _ _
  have hly : y.length = wordsI k := by rw [← hy]; exact ofN_len _ _
  have hxk : ∀ i, hasN x i = true → (i : Int) < k := fun i h => by rw [← hx] at h; exact (hasN_ofN h).1
  have c1 := fs_rOf k (by omega) (by omega) _ (zl haw hal) (zb haw hal)
  rw [hx, ← I_eq] at c1
  have c2 := fs_rOf k (by omega) (by omega) _ (zl hbw hbl) (zb hbw hbl)
  rw [hy, ← I_eq] at c2
  have lB : ∀ u v : List Nat, (joinB u v).length = u.length := fun u v => by simp [joinB, tab_len]
  have lM : ∀ u v : List Nat, (joinM u v).length = u.length := fun u v => by simp [joinM, tab_len]
  have lU : ∀ u v : List Nat, (joinU u v).length = max u.length v.length := fun u v => by simp [joinU, tab_len]
  have lB1 := lB x y
  have lB2 := lB y x
  have lM1 := lM x y
  have lBB := lB (joinB x y) (joinM x y)
  have lU1 := lU x y
  have lU2 := lU y x
  have lU3 := lU (joinB x y) (joinM x y)
  have lF := flipN_len x k
  have lFF := flipN_len (flipN x k) k
  have c3 := fs_CountN (joinB (joinB x y) (joinM x y)) (wd_joinB (wd_joinB hwx)) (by omega)
  rw [join_none hwx hwy] at c3
  have hcnt := flip_count hwx hlx (fun i h => by have := hxk i h; omega) hwk2
  repeat' (conv => whnf); first
    | ((refine Or.inl ⟨by rfl, _, fs_few a, ?_⟩))
    | ((refine Or.inl ⟨by rfl, _, fs_few b, ?_⟩))
    | ((refine Or.inl ⟨by rfl, _, fs_rList (a.take 8) haw (by omega), ?_⟩))
    | ((refine Or.inl ⟨by rfl, _, fs_rList (b.take 8) hbw (by omega), ?_⟩))
    | ((refine fun x hx => ?_); (obtain rfl := U_at hx; clear hx))
    | ((refine fun x hx => ?_); (obtain rfl := zs_at hx; clear hx))
    | ((refine fun x hx => ?_); (obtain rfl := ints_at hx; clear hx))
    | ((refine And.intro rfl (And.intro (by simp only [U_len, tab_len, List.length_set]; omega) ?_)))
    | ((refine ar_tdiv (by omega) (by omega) (by omega) ?_))
    | ((refine Br.beq (by rfl) ?_))
    | (refine Br.tt ?_)
    | (refine Br.ff ?_)
    | (refine Br.dec (fun h => ?_) (fun h => ?_)) <;> try (exfalso; omega)
    | (refine Br.neg ?_)
    | (refine Br.mk (fun h => ?_) (fun h => ?_))
    | (refine And.intro rfl ?_)
    | (refine And.intro (by omega) ?_)
    | (refine ⟨_, Or.inl ⟨⟨by omega, by omega⟩, rfl⟩, ?_⟩)
    | (refine And.intro (by simp only [List.length_map, List.length_replicate, List.length_set, List.length_append, List.length_take, List.length_drop, List.length_cons, List.length_nil, U_len, tab_len, ints_len, zs_len]; first | done | omega) ?_)
    | (refine And.intro (Nat.le_refl _) ?_)
    | fail
  rw [e]
  repeat' (conv => whnf); first
    | ((refine Or.inl ⟨by rfl, _, fs_few a, ?_⟩))
    | ((refine Or.inl ⟨by rfl, _, fs_few b, ?_⟩))
    | ((refine Or.inl ⟨by rfl, _, fs_rList (a.take 8) haw (by omega), ?_⟩))
    | ((refine Or.inl ⟨by rfl, _, fs_rList (b.take 8) hbw (by omega), ?_⟩))
    | ((refine Or.inl ⟨by rfl, _, c1, ?_⟩))
    | ((refine Or.inl ⟨by rfl, _, c2, ?_⟩))
    | ((refine Or.inl ⟨by rfl, _, fs_live, ?_⟩))
    | ((refine Or.inl ⟨by rfl, _, c3, ?_⟩))
    | ((refine Or.inl ⟨by rfl, _, fs_Union x y hwx hwy (by omega) (by omega), ?_⟩))
    | ((refine Or.inl ⟨by rfl, _, fs_Union y x hwy hwx (by omega) (by omega), ?_⟩))
    | ((refine Or.inl ⟨by rfl, _, fs_Both x y hwx hwy (by omega) (by omega), ?_⟩))
    | ((refine Or.inl ⟨by rfl, _, fs_Both y x hwy hwx (by omega) (by omega), ?_⟩))
    | ((refine Or.inl ⟨by rfl, _, fs_Minus x y hwx hwy (by omega) (by omega), ?_⟩))
    | ((refine Or.inl ⟨by rfl, _, fs_Union (joinB x y) (joinM x y) (wd_joinB hwx) (wd_joinM hwx) (by omega) (by omega), ?_⟩))
    | ((refine Or.inl ⟨by rfl, _, fs_Both (joinB x y) (joinM x y) (wd_joinB hwx) (wd_joinM hwx) (by omega) (by omega), ?_⟩))
    | ((refine Or.inl ⟨by rfl, _, fs_Flip x hwx (by omega) k (by omega) (by omega), ?_⟩))
    | ((refine Or.inl ⟨by rfl, _, fs_Flip (flipN x k) (wd_flipN x k) (by omega) k (by omega) (by omega), ?_⟩))
    | ((refine Or.inl ⟨by rfl, _, fs_CountN x hwx (by omega), ?_⟩))
    | ((refine Or.inl ⟨by rfl, _, fs_CountN (flipN x k) (wd_flipN x k) (by omega), ?_⟩))
    | ((refine Or.inl ⟨by rfl, _, fs_same (a := joinU x y) (b := joinU y x) (joinU_comm hwx hwy) (by omega), ?_⟩))
    | ((refine Or.inl ⟨by rfl, _, fs_same (a := joinB x y) (b := joinB y x) (joinB_comm hwx hwy (by omega)) (by omega), ?_⟩))
    | ((refine Or.inl ⟨by rfl, _, fs_same (a := joinU (joinB x y) (joinM x y)) (b := x) (join_rest hwx hwy) (by omega), ?_⟩))
    | ((refine Or.inl ⟨by rfl, _, fs_same (a := flipN (flipN x k) k) (b := x) (flip_flip hwx hlx hxk) (by omega), ?_⟩))
    | ((refine fun x hx => ?_); (obtain rfl := U_at hx; clear hx))
    | ((refine fun x hx => ?_); (obtain rfl := zs_at hx; clear hx))
    | ((refine fun x hx => ?_); (obtain rfl := ints_at hx; clear hx))
    | ((refine And.intro rfl (And.intro (by simp only [U_len, tab_len, List.length_set]; omega) ?_)))
    | ((refine ar_tdiv (by omega) (by omega) (by omega) ?_))
    | ((refine Br.beq (by rfl) ?_))
    | (refine Br.tt ?_)
    | (refine Br.ff ?_)
    | (refine Br.dec (fun h => ?_) (fun h => ?_)) <;> try (exfalso; omega)
    | (refine Br.neg ?_)
    | (refine Br.mk (fun h => ?_) (fun h => ?_))
    | (refine And.intro rfl ?_)
    | (refine And.intro (by omega) ?_)
    | (refine ⟨_, Or.inl ⟨⟨by omega, by omega⟩, rfl⟩, ?_⟩)
    | (refine And.intro (by simp only [List.length_map, List.length_replicate, List.length_set, List.length_append, List.length_take, List.length_drop, List.length_cons, List.length_nil, U_len, tab_len, ints_len, zs_len]; first | done | omega) ?_)
    | (refine And.intro (Nat.le_refl _) ?_)
    | fail
  show SV.bool (decide (((bits x).length : Int) + ((bits (flipN x k)).length : Int) = (k : Int))) = SV.bool true
  rw [decide_eq_true (by omega)]

end Go.Proofs.Ytefciekodhpefaa
