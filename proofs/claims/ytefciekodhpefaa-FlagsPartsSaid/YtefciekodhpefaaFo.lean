/- The laws on sets of places: parts. -/
import Derived.Test.YtefciekodhpefaaFn
namespace Go.Proofs.Ytefciekodhpefaa
open Go.RowKit
attribute [local irreducible] FS FO IT HS

theorem hasN_partU {f : List Nat} (hf : Wd f) (a b : Nat) (h : b - a ≤ 4096) (i : Nat) : hasN (partU f a b) i = (decide (a + i < b) && hasN f (a + i)) := by
  have em : max (a : Int) 0 = a := by omega
  rw [partU, em]
  split
  · rename_i h1
    have : ¬ a + i < b := by omega
    simp [this, hasN]
  · rename_i h1
    have hw : wordsI ((b : Int) - a) = (b - a + 63) / 64 := by unfold wordsI; omega
    rw [partN, hasN_puts, hasN_zero, Bool.false_or, List.length_replicate, Bool.eq_iff_iff, Bool.and_eq_true, Bool.and_eq_true, decide_eq_true_eq, decide_eq_true_eq, List.any_eq_true]
    constructor
    · rintro ⟨h2, x, hx, he⟩
      obtain ⟨j, hj, rfl⟩ := List.mem_map.1 hx
      by_cases hc : (a : Int) ≤ j ∧ (j : Int) < b
      · rw [if_pos hc] at he
        have he : (j : Int) - a = i := by simpa using he
        have : j = a + i := by omega
        subst this
        exact ⟨by omega, ((bits_mem hf).1 hj).2⟩
      · rw [if_neg hc] at he; simp at he
    · rintro ⟨h2, h3⟩
      refine ⟨by omega, ((a + i : Nat) : Int), List.mem_map.2 ⟨a + i, (bits_mem hf).2 ⟨hasN_lt h3, h3⟩, rfl⟩, ?_⟩
      rw [if_pos ⟨by omega, by omega⟩]
      simp; omega
theorem filter_more (p : Nat → Bool) (m n : Nat) (h : ∀ i, p i = true → i < m) (hm : m ≤ n) : ((List.range n).filter p).length = ((List.range m).filter p).length := by
  rw [← filter_lt_range p m n hm, List.filter_filter]
  congr 1
  refine List.filter_congr fun x _ => ?_
  cases hp : p x
  · simp
  · simp [h x hp]
theorem bits_count {f : List Nat} (hf : Wd f) (m : Nat) (h : ∀ i, hasN f i = true → i < m) : (bits f).length = ((List.range m).filter (hasN f)).length := by
  rw [bits_eq hf]
  by_cases hm : m ≤ 64 * f.length
  · exact filter_more _ _ _ h hm
  · exact (filter_more _ _ _ (fun i hi => hasN_lt hi) (by omega)).symm
theorem part_count {f : List Nat} (hf : Wd f) (k : Nat) (hk : k ≤ 64 * f.length) (hl : f.length ≤ 64) : (bits (partU f 0 k)).length + (bits (partU f k (64 * f.length : Nat))).length = (bits f).length := by
  have h1 := hasN_partU hf 0 k (by omega)
  have h2 := hasN_partU hf k (64 * f.length) (by omega)
  have c1 := bits_count (wd_partU (ws := f) 0 k) k fun i hi => by
    have := h1 i
    rw [show ((0 : Nat) : Int) = 0 from rfl] at this
    rw [this] at hi; simp at hi; exact hi.1
  have c2 := bits_count (wd_partU (ws := f) k (64 * f.length : Nat)) (64 * f.length - k) fun i hi => by
    rw [h2 i] at hi; simp at hi; omega
  rw [c1, c2, bits_eq hf]
  obtain ⟨d, hd⟩ := Nat.exists_eq_add_of_le hk
  have e3 : (List.range k).filter (hasN (partU f 0 k)) = (List.range k).filter (hasN f) := List.filter_congr fun i hi => by
    have hi := List.mem_range.1 hi
    have := h1 i
    rw [show ((0 : Nat) : Int) = 0 from rfl] at this
    rw [this]; simp [hi]
  have e4 : (List.range d).filter (hasN (partU f k (64 * f.length : Nat))) = (List.range d).filter fun i => hasN f (k + i) := List.filter_congr fun i hi => by
    have hi := List.mem_range.1 hi
    rw [h2]; simp; intro; omega
  rw [e3, show 64 * f.length - k = d by omega, e4, hd, List.range_add, List.filter_append, List.length_append, List.filter_map, List.length_map]
  rfl

def ir_fretworklaw03_FlagsParts : IR :=
(.seq
 (.reg (⟨(some 3), .bx (.t 1), none⟩ ::
   ⟨(some 4), .mv (.c (.bool false)), none⟩ ::
   []))
 (.seq
  (.reg (⟨(some 11), .mv (.t 0), none⟩ ::
    ⟨(some 12), .call (.c (.fn 10 [])) [(.t 11)], none⟩ ::
    ⟨(some 0), .mv (.t 12), none⟩ ::
    []))
  (.seq
   (.reg (⟨(some 13), .mv (.t 0), none⟩ ::
     ⟨(some 14), .ln (.t 13), none⟩ ::
     ⟨(some 15), .bin .mul (.c (.int .i64 64)) (.t 14), none⟩ ::
     ⟨(some 5), .mv (.t 15), none⟩ ::
     []))
   (.seq
    (.reg (⟨(some 16), .iaA 2 1 (.t 3) (.c (.int .i64 0)), none⟩ ::
      ⟨(some 17), .ld 1 false (.t 16), none⟩ ::
      ⟨(some 18), .cv .i64 (.t 17), none⟩ ::
      ⟨(some 19), .mv (.t 5), none⟩ ::
      ⟨(some 20), .bin .add (.t 19) (.c (.int .i64 1)), none⟩ ::
      ⟨(some 21), .bin .rem (.t 18) (.t 20), none⟩ ::
      ⟨(some 6), .mv (.t 21), none⟩ ::
      []))
    (.seq
     (.reg (⟨(some 22), .mv (.t 0), none⟩ ::
       ⟨(some 23), .mv (.t 6), none⟩ ::
       ⟨(some 24), .call (.c (.fn 41 [])) [(.t 22), (.c (.int .i64 0)), (.t 23)], none⟩ ::
       ⟨(some 25), .mv (.t 0), none⟩ ::
       ⟨(some 26), .mv (.t 6), none⟩ ::
       ⟨(some 27), .mv (.t 5), none⟩ ::
       ⟨(some 28), .call (.c (.fn 41 [])) [(.t 25), (.t 26), (.t 27)], none⟩ ::
       ⟨(some 7), .mv (.t 24), none⟩ ::
       ⟨(some 8), .mv (.t 28), none⟩ ::
       []))
     (.seq
      (.seq
       (.reg (⟨(some 9), .mv (.c (.int .i64 0)), none⟩ ::
         []))
       (.block 0
        (.loop
         (.seq
          (.seq
           (.reg (⟨(some 29), .mv (.t 9), none⟩ ::
             ⟨(some 30), .mv (.t 5), none⟩ ::
             ⟨(some 31), .bin .lss (.t 29) (.t 30), none⟩ ::
             []))
           (.cond (.t 31)
            .skip
            (.exit 0)))
          (.seq
           (.block 1
            (.seq
             (.reg (⟨(some 34), .mv (.t 7), none⟩ ::
               ⟨(some 35), .mv (.t 9), none⟩ ::
               ⟨(some 36), .call (.c (.fn 19 [])) [(.t 34), (.t 35)], none⟩ ::
               ⟨(some 10), .mv (.t 36), none⟩ ::
               []))
             (.seq
              (.seq
               (.reg (⟨(some 37), .mv (.t 9), none⟩ ::
                 ⟨(some 38), .mv (.t 6), none⟩ ::
                 ⟨(some 39), .bin .geq (.t 37) (.t 38), none⟩ ::
                 []))
               (.cond (.t 39)
                (.reg (⟨(some 40), .mv (.t 8), none⟩ ::
                  ⟨(some 41), .mv (.t 9), none⟩ ::
                  ⟨(some 42), .mv (.t 6), none⟩ ::
                  ⟨(some 43), .bin .sub (.t 41) (.t 42), none⟩ ::
                  ⟨(some 44), .call (.c (.fn 19 [])) [(.t 40), (.t 43)], none⟩ ::
                  ⟨(some 10), .mv (.t 44), none⟩ ::
                  []))
                .skip))
              (.seq
               (.reg (⟨(some 45), .mv (.t 10), none⟩ ::
                 ⟨(some 46), .mv (.t 0), none⟩ ::
                 ⟨(some 47), .mv (.t 9), none⟩ ::
                 ⟨(some 48), .call (.c (.fn 19 [])) [(.t 46), (.t 47)], none⟩ ::
                 ⟨(some 49), .beq true (.t 45) (.t 48), none⟩ ::
                 []))
               (.cond (.t 49)
                (.seq
                 (.reg (⟨(some 4), .mv (.c (.bool false)), none⟩ ::
                   []))
                 .ret)
                .skip)))))
           (.reg (⟨(some 32), .mv (.t 9), none⟩ ::
             ⟨(some 33), .bin .add (.t 32) (.c (.int .i64 1)), none⟩ ::
             ⟨(some 9), .mv (.t 33), none⟩ ::
             [])))))))
      (.seq
       (.reg (⟨(some 50), .call (.c (.fn 11 [])) [], none⟩ ::
         ⟨(some 51), .mv (.t 50), none⟩ ::
         ⟨(some 52), .mv (.t 7), some (51, true)⟩ ::
         ⟨(some 53), .call (.c (.fn 26 [])) [(.t 52)], some (51, true)⟩ ::
         ⟨(some 54), .mv (.t 8), some (51, true)⟩ ::
         ⟨(some 55), .call (.c (.fn 26 [])) [(.t 54)], some (51, true)⟩ ::
         ⟨(some 56), .bin .add (.t 53) (.t 55), some (51, true)⟩ ::
         ⟨(some 57), .mv (.t 0), some (51, true)⟩ ::
         ⟨(some 58), .call (.c (.fn 26 [])) [(.t 57)], some (51, true)⟩ ::
         ⟨(some 59), .bin .eql (.t 56) (.t 58), some (51, true)⟩ ::
         ⟨(some 60), .pick (.t 51) (.t 59) (.c (.bool false)), none⟩ ::
         ⟨(some 4), .mv (.t 60), none⟩ ::
         []))
       .ret)))))))
theorem cd_fretworklaw03_FlagsParts : Code1 Try.prog 8 61 ir_fretworklaw03_FlagsParts [.t 4] := ⟨Try.call8, _, _, Try.func8, rfl, by kernel_rfl, by kernel_rfl, by kernel_rfl, by kernel_rfl⟩

set_option maxHeartbeats 4000000 in
theorem fs_FlagsParts (ws : List Nat) (hw : Wd ws) (n m : Nat) (hn : n < 65536) : FS Try.prog 8 [U ws, .agg [.int .u16 (n : Int), .int .u16 (m : Int)]] (.bool true) := by
  refine fs_of_cvc mixed cd_fretworklaw03_FlagsParts (by simp) ?_
  have hfw : Wd (ws.take 8) := wd_take hw 8
  have hfl : (ws.take 8).length ≤ 8 := by simp; omega
  refine Or.inl ⟨by rfl, _, fs_few ws, ?_⟩
  generalize ws.take 8 = f at hfw hfl
  have hul := U_len f
  generalize hk : n % (64 * f.length + 1) = k
  have hkt : k ≤ 64 * f.length := by
    have := Nat.mod_lt n (show 64 * f.length + 1 > 0 by omega)
    omega
  have e : (n : Int).tmod (64 * ((uw f).length : Int) + 1) = (k : Int) := by
    rw [Int.tmod_eq_emod_of_nonneg (by omega), hul, ← hk]
    simp
  repeat' (conv => whnf); first
    | ((refine fun x hx => ?_); (obtain rfl := U_at hx; clear hx))
    | ((refine fun x hx => ?_); (obtain rfl := zs_at hx; clear hx))
    | ((refine fun x hx => ?_); (obtain rfl := ints_at hx; clear hx))
    | ((refine And.intro rfl (And.intro (by simp only [U_len, tab_len, List.length_set]; omega) ?_)))
    | ((refine ar_tdiv (by omega) (by omega) (by omega) ?_))
    | ((refine Br.beq (by rfl) ?_))
    | ((refine Br.bne (by rfl) ?_))
    | (refine Br.tt ?_)
    | (refine Br.ff ?_)
    | (refine Br.dec (fun h => ?_) (fun h => ?_)) <;> try (exfalso; omega)
    | (refine Br.neg ?_)
    | (refine Br.mk (fun h => ?_) (fun h => ?_))
    | (refine And.intro rfl ?_)
    | (refine And.intro (by omega) ?_)
    | (refine ⟨_, Or.inl ⟨⟨by omega, by omega⟩, rfl⟩, ?_⟩)
    | (refine And.intro (by simp only [List.length_map, List.length_replicate, List.length_set, List.length_append, List.length_take, List.length_drop, List.length_cons, List.length_nil, U_len, tab_len, ints_len, zs_len]; first | done | omega) ?_)
    | (refine And.intro (Nat.le_refl _) ?_)
    | fail
  rw [e]
  have h1 := hasN_partU hfw 0 k (by omega)
  have h2 := hasN_partU hfw k (64 * f.length) (by omega)
  have lA := partU_len f 0 k
  have lB := partU_len f k (64 * f.length : Nat)
  have cA := fs_PartU f hfw (by omega) 0 k (by omega) (by omega) (by omega) (by omega)
  have cB := fs_PartU f hfw (by omega) k (64 * f.length : Nat) (by omega) (by omega) (by omega) (by omega)
  have hcnt := part_count hfw k hkt (by omega)
  have wA : Wd (partU f 0 k) := wd_partU 0 k
  have wB : Wd (partU f k (64 * f.length : Nat)) := wd_partU k _
  have et : (64 : Int) * ((uw f).length : Int) = ((64 * f.length : Nat) : Int) := by rw [hul]; omega
  rw [et]
  repeat' (conv => whnf); first
    | ((refine Or.inl ⟨by rfl, _, cA, ?_⟩))
    | ((refine Or.inl ⟨by rfl, _, cB, ?_⟩))
    | ((refine fun x hx => ?_); (obtain rfl := U_at hx; clear hx))
    | ((refine fun x hx => ?_); (obtain rfl := zs_at hx; clear hx))
    | ((refine fun x hx => ?_); (obtain rfl := ints_at hx; clear hx))
    | ((refine And.intro rfl (And.intro (by simp only [U_len, tab_len, List.length_set]; omega) ?_)))
    | ((refine ar_tdiv (by omega) (by omega) (by omega) ?_))
    | ((refine Br.beq (by rfl) ?_))
    | ((refine Br.bne (by rfl) ?_))
    | (refine Br.tt ?_)
    | (refine Br.ff ?_)
    | (refine Br.dec (fun h => ?_) (fun h => ?_)) <;> try (exfalso; omega)
    | (refine Br.neg ?_)
    | (refine Br.mk (fun h => ?_) (fun h => ?_))
    | (refine And.intro rfl ?_)
    | (refine And.intro (by omega) ?_)
    | (refine ⟨_, Or.inl ⟨⟨by omega, by omega⟩, rfl⟩, ?_⟩)
    | (refine And.intro (by simp only [List.length_map, List.length_replicate, List.length_set, List.length_append, List.length_take, List.length_drop, List.length_cons, List.length_nil, U_len, tab_len, ints_len, zs_len]; first | done | omega) ?_)
    | (refine And.intro (Nat.le_refl _) ?_)
    | fail
  refine ⟨Nat, fun i => i ≤ 64 * f.length, fun i => [(0, U f), (5, .int .i64 ((64 * f.length : Nat) : Int)), (6, .int .i64 (k : Int)), (7, U (partU f 0 k)), (8, U (partU f k (64 * f.length : Nat))), (9, .int .i64 (i : Int))], fun _ => [.vars [.int .u16 (n : Int), .int .u16 (m : Int)]], fun _ => none, fun i => 64 * f.length - i, ⟨0, by omega, ⟨rfl, rfl, rfl, rfl, rfl, rfl, trivial⟩, ⟨⟨rfl, rfl, trivial⟩, trivial⟩, rfl⟩, fun i hi => ?_⟩
  have hi' : i ≤ 64 * f.length := hi
  have hHA := fs_Has (partU f 0 k) wA i (by omega)
  have hHB := fun h : k ≤ i => fs_Has (partU f k (64 * f.length : Nat)) wB ((i : Int) - k) (by omega)
  have lA' := bits_len _ wA
  have lB' := bits_len _ wB
  have hHF := fs_Has f hfw i (by omega)
  have e1 : i < k → hasI (partU f 0 k) i = hasI f i := fun h => by
    rw [hasI_nat, hasI_nat]
    have := h1 i
    rw [show ((0 : Nat) : Int) = 0 from rfl] at this
    rw [this]; simp [h]
  have e2 : k ≤ i → i < 64 * f.length → hasI (partU f k (64 * f.length : Nat)) ((i : Int) - k) = hasI f i := fun h h' => by
    obtain ⟨d, rfl⟩ := Nat.exists_eq_add_of_le h
    rw [show (((k + d : Nat) : Int) - k) = (d : Int) by omega, hasI_nat, hasI_nat, h2]; simp; intro; omega
  obtain ⟨b, hb⟩ : ∃ b, hasI f i = b := ⟨_, rfl⟩
  rw [hb] at hHF
  by_cases hlt : i < 64 * f.length
  · by_cases hik : k ≤ i
    · have hHB := hHB hik
      rw [e2 hik hlt, hb] at hHB
      repeat' (conv => whnf); first
        | ((refine Or.inl ⟨by rfl, _, hHA, ?_⟩))
        | ((refine Or.inl ⟨by rfl, _, hHB, ?_⟩))
        | ((refine Or.inl ⟨by rfl, _, hHF, ?_⟩))
        | ((refine fun x hx => ?_); (obtain rfl := U_at hx; clear hx))
        | ((refine fun x hx => ?_); (obtain rfl := zs_at hx; clear hx))
        | ((refine fun x hx => ?_); (obtain rfl := ints_at hx; clear hx))
        | ((refine And.intro rfl (And.intro (by simp only [U_len, tab_len, List.length_set]; omega) ?_)))
        | ((refine ar_tdiv (by omega) (by omega) (by omega) ?_))
        | ((refine Br.beq (by rfl) ?_))
        | ((refine Br.bne (by rfl) ?_))
        | (refine Br.tt ?_)
        | (refine Br.ff ?_)
        | (refine Br.dec (fun h => ?_) (fun h => ?_)) <;> try (exfalso; omega)
        | (refine Br.neg ?_)
        | (refine Br.mk (fun h => ?_) (fun h => ?_))
        | (refine And.intro rfl ?_)
        | (refine And.intro (by omega) ?_)
        | (refine ⟨_, Or.inl ⟨⟨by omega, by omega⟩, rfl⟩, ?_⟩)
        | (refine And.intro (by simp only [List.length_map, List.length_replicate, List.length_set, List.length_append, List.length_take, List.length_drop, List.length_cons, List.length_nil, U_len, tab_len, ints_len, zs_len]; first | done | omega) ?_)
        | (refine And.intro (Nat.le_refl _) ?_)
        | fail
      exact ⟨i + 1, (show i + 1 ≤ 64 * f.length by omega), (show 64 * f.length - (i + 1) < 64 * f.length - i by omega), ⟨rfl, rfl, rfl, rfl, rfl, rfl, trivial⟩, ⟨⟨rfl, rfl, trivial⟩, trivial⟩, rfl⟩
    · rw [e1 (by omega), hb] at hHA
      repeat' (conv => whnf); first
        | ((refine Or.inl ⟨by rfl, _, hHA, ?_⟩))
        | ((refine Or.inl ⟨by rfl, _, hHF, ?_⟩))
        | ((refine fun x hx => ?_); (obtain rfl := U_at hx; clear hx))
        | ((refine fun x hx => ?_); (obtain rfl := zs_at hx; clear hx))
        | ((refine fun x hx => ?_); (obtain rfl := ints_at hx; clear hx))
        | ((refine And.intro rfl (And.intro (by simp only [U_len, tab_len, List.length_set]; omega) ?_)))
        | ((refine ar_tdiv (by omega) (by omega) (by omega) ?_))
        | ((refine Br.beq (by rfl) ?_))
        | ((refine Br.bne (by rfl) ?_))
        | (refine Br.tt ?_)
        | (refine Br.ff ?_)
        | (refine Br.dec (fun h => ?_) (fun h => ?_)) <;> try (exfalso; omega)
        | (refine Br.neg ?_)
        | (refine Br.mk (fun h => ?_) (fun h => ?_))
        | (refine And.intro rfl ?_)
        | (refine And.intro (by omega) ?_)
        | (refine ⟨_, Or.inl ⟨⟨by omega, by omega⟩, rfl⟩, ?_⟩)
        | (refine And.intro (by simp only [List.length_map, List.length_replicate, List.length_set, List.length_append, List.length_take, List.length_drop, List.length_cons, List.length_nil, U_len, tab_len, ints_len, zs_len]; first | done | omega) ?_)
        | (refine And.intro (Nat.le_refl _) ?_)
        | fail
      exact ⟨i + 1, (show i + 1 ≤ 64 * f.length by omega), (show 64 * f.length - (i + 1) < 64 * f.length - i by omega), ⟨rfl, rfl, rfl, rfl, rfl, rfl, trivial⟩, ⟨⟨rfl, rfl, trivial⟩, trivial⟩, rfl⟩
  · repeat' (conv => whnf); first
      | ((refine Or.inl ⟨by rfl, _, fs_live, ?_⟩))
      | ((refine Or.inl ⟨by rfl, _, fs_CountN (partU f 0 k) wA (by omega), ?_⟩))
      | ((refine Or.inl ⟨by rfl, _, fs_CountN (partU f k (64 * f.length : Nat)) wB (by omega), ?_⟩))
      | ((refine Or.inl ⟨by rfl, _, fs_CountN f hfw (by omega), ?_⟩))
      | ((refine fun x hx => ?_); (obtain rfl := U_at hx; clear hx))
      | ((refine fun x hx => ?_); (obtain rfl := zs_at hx; clear hx))
      | ((refine fun x hx => ?_); (obtain rfl := ints_at hx; clear hx))
      | ((refine And.intro rfl (And.intro (by simp only [U_len, tab_len, List.length_set]; omega) ?_)))
      | ((refine ar_tdiv (by omega) (by omega) (by omega) ?_))
      | ((refine Br.beq (by rfl) ?_))
      | ((refine Br.bne (by rfl) ?_))
      | (refine Br.tt ?_)
      | (refine Br.ff ?_)
      | (refine Br.dec (fun h => ?_) (fun h => ?_)) <;> try (exfalso; omega)
      | (refine Br.neg ?_)
      | (refine Br.mk (fun h => ?_) (fun h => ?_))
      | (refine And.intro rfl ?_)
      | (refine And.intro (by omega) ?_)
      | (refine ⟨_, Or.inl ⟨⟨by omega, by omega⟩, rfl⟩, ?_⟩)
      | (refine And.intro (by simp only [List.length_map, List.length_replicate, List.length_set, List.length_append, List.length_take, List.length_drop, List.length_cons, List.length_nil, U_len, tab_len, ints_len, zs_len]; first | done | omega) ?_)
      | (refine And.intro (Nat.le_refl _) ?_)
      | fail
    show SV.bool (decide (((bits (partU f 0 k)).length : Int) + ((bits (partU f k (64 * f.length : Nat))).length : Int) = ((bits f).length : Int))) = SV.bool true
    rw [decide_eq_true (by omega)]

end Go.Proofs.Ytefciekodhpefaa
