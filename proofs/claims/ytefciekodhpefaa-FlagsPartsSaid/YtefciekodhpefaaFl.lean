/- The laws on sets of places. -/
import Derived.Test.YtefciekodhpefaaFk
namespace Go.Proofs.Ytefciekodhpefaa
open Go.RowKit
attribute [local irreducible] FS FO IT HS

theorem fs_same {a b : List Nat} (h : a = b) (hla : a.length ≤ 1000000000) : FS Try.prog 12 [U a, U b] (.bool true) := by
  have := fs_Same a b hla
  rwa [decide_eq_true h] at this
theorem fs_Right' (ws : List Nat) (hw : Wd ws) (hl : ws.length ≤ 1000000) (n : Int) (h0 : -9223372036854775808 ≤ n) (h1 : n ≤ 9223372036854775807) : FS Try.prog 17 [U ws, .int .i64 n] (.bool (rightB ws n)) := fs_Right ws hw hl n h0 h1
theorem zs_take (l : List Int) (k : Nat) : (zs l).take k = zs (l.take k) := by simp [zs, List.map_take]

def ir_fretworklaw03_FlagsMake : IR :=
(.seq
 (.reg (⟨(some 6), .mv (.c (.bool false)), none⟩ ::
   []))
 (.seq
  (.reg (⟨(some 8), .mv (.t 0), none⟩ ::
    ⟨(some 9), .call (.c (.fn 10 [])) [(.t 8)], none⟩ ::
    ⟨(some 0), .mv (.t 9), none⟩ ::
    []))
  (.seq
   (.seq
    (.reg (⟨(some 10), .mv (.t 2), none⟩ ::
      ⟨(some 11), .ln (.t 10), none⟩ ::
      ⟨(some 12), .bin .gtr (.t 11) (.c (.int .i64 30)), none⟩ ::
      []))
    (.cond (.t 12)
     (.reg (⟨(some 13), .mv (.t 2), none⟩ ::
       ⟨(some 14), .sl 1 (.t 13) none (some (.c (.int .i64 30))) none, none⟩ ::
       ⟨(some 2), .mv (.t 14), none⟩ ::
       []))
     .skip))
   (.seq
    (.reg (⟨(some 7), .mv (.c (.int .i64 0)), none⟩ ::
      []))
    (.seq
     (.seq
      (.reg (⟨(some 15), .mv (.t 2), none⟩ ::
        ⟨(some 16), .ln (.t 15), none⟩ ::
        ⟨(some 17), .bin .gtr (.t 16) (.c (.int .i64 0)), none⟩ ::
        []))
      (.cond (.t 17)
       (.reg (⟨(some 18), .mv (.t 2), none⟩ ::
         ⟨(some 19), .ia 1 (.t 18) (.c (.int .i64 0)), none⟩ ::
         ⟨(some 20), .ld 1 false (.t 19), none⟩ ::
         ⟨(some 7), .mv (.t 20), none⟩ ::
         []))
       .skip))
     (.seq
      (.reg (⟨(some 21), .call (.c (.fn 11 [])) [], none⟩ ::
        ⟨(some 22), .mv (.t 21), none⟩ ::
        ⟨(some 23), .mv (.t 1), some (22, true)⟩ ::
        ⟨(some 24), .call (.c (.fn 13 [])) [(.t 23)], some (22, true)⟩ ::
        ⟨(some 25), .mv (.t 1), some (22, true)⟩ ::
        ⟨(some 26), .call (.c (.fn 14 [])) [(.t 25)], some (22, true)⟩ ::
        ⟨(some 27), .call (.c (.fn 12 [])) [(.t 24), (.t 26)], some (22, true)⟩ ::
        ⟨(some 28), .pick (.t 22) (.t 27) (.c (.bool false)), none⟩ ::
        ⟨(some 29), .mv (.t 28), none⟩ ::
        ⟨(some 30), .mv (.t 1), some (29, true)⟩ ::
        ⟨(some 31), .mv (.t 2), some (29, true)⟩ ::
        ⟨(some 32), .call (.c (.fn 15 [])) [(.t 30), (.t 31)], some (29, true)⟩ ::
        ⟨(some 33), .mv (.t 1), some (29, true)⟩ ::
        ⟨(some 34), .mv (.t 2), some (29, true)⟩ ::
        ⟨(some 35), .call (.c (.fn 16 [])) [(.t 33), (.t 34)], some (29, true)⟩ ::
        ⟨(some 36), .call (.c (.fn 12 [])) [(.t 32), (.t 35)], some (29, true)⟩ ::
        ⟨(some 37), .pick (.t 29) (.t 36) (.c (.bool false)), none⟩ ::
        ⟨(some 38), .mv (.t 37), none⟩ ::
        ⟨(some 39), .mv (.t 0), some (38, true)⟩ ::
        ⟨(some 40), .mv (.t 1), some (38, true)⟩ ::
        ⟨(some 41), .call (.c (.fn 17 [])) [(.t 39), (.t 40)], some (38, true)⟩ ::
        ⟨(some 42), .mv (.t 0), some (38, true)⟩ ::
        ⟨(some 43), .mv (.t 1), some (38, true)⟩ ::
        ⟨(some 44), .call (.c (.fn 18 [])) [(.t 42), (.t 43)], some (38, true)⟩ ::
        ⟨(some 45), .beq false (.t 41) (.t 44), some (38, true)⟩ ::
        ⟨(some 46), .pick (.t 38) (.t 45) (.c (.bool false)), none⟩ ::
        ⟨(some 47), .mv (.t 46), none⟩ ::
        ⟨(some 48), .mv (.t 0), some (47, true)⟩ ::
        ⟨(some 49), .mv (.t 7), some (47, true)⟩ ::
        ⟨(some 50), .call (.c (.fn 19 [])) [(.t 48), (.t 49)], some (47, true)⟩ ::
        ⟨(some 51), .mv (.t 0), some (47, true)⟩ ::
        ⟨(some 52), .mv (.t 7), some (47, true)⟩ ::
        ⟨(some 53), .call (.c (.fn 20 [])) [(.t 51), (.t 52)], some (47, true)⟩ ::
        ⟨(some 54), .beq false (.t 50) (.t 53), some (47, true)⟩ ::
        ⟨(some 55), .pick (.t 47) (.t 54) (.c (.bool false)), none⟩ ::
        ⟨(some 56), .mv (.t 55), none⟩ ::
        ⟨(some 57), .mv (.t 0), some (56, true)⟩ ::
        ⟨(some 58), .mv (.t 7), some (56, true)⟩ ::
        ⟨(some 59), .call (.c (.fn 21 [])) [(.t 57), (.t 58)], some (56, true)⟩ ::
        ⟨(some 60), .mv (.t 0), some (56, true)⟩ ::
        ⟨(some 61), .mv (.t 7), some (56, true)⟩ ::
        ⟨(some 62), .call (.c (.fn 22 [])) [(.t 60), (.t 61)], some (56, true)⟩ ::
        ⟨(some 63), .call (.c (.fn 12 [])) [(.t 59), (.t 62)], some (56, true)⟩ ::
        ⟨(some 64), .pick (.t 56) (.t 63) (.c (.bool false)), none⟩ ::
        ⟨(some 65), .mv (.t 64), none⟩ ::
        ⟨(some 66), .mv (.t 0), some (65, true)⟩ ::
        ⟨(some 67), .mv (.t 7), some (65, true)⟩ ::
        ⟨(some 68), .call (.c (.fn 23 [])) [(.t 66), (.t 67)], some (65, true)⟩ ::
        ⟨(some 69), .mv (.t 0), some (65, true)⟩ ::
        ⟨(some 70), .mv (.t 7), some (65, true)⟩ ::
        ⟨(some 71), .call (.c (.fn 24 [])) [(.t 69), (.t 70)], some (65, true)⟩ ::
        ⟨(some 72), .call (.c (.fn 12 [])) [(.t 68), (.t 71)], some (65, true)⟩ ::
        ⟨(some 73), .pick (.t 65) (.t 72) (.c (.bool false)), none⟩ ::
        ⟨(some 6), .mv (.t 73), none⟩ ::
        []))
      .ret))))))
theorem cd_fretworklaw03_FlagsMake : Code1 Try.prog 3 74 ir_fretworklaw03_FlagsMake [.t 6] := ⟨Try.call3, _, _, Try.func3, rfl, by kernel_rfl, by kernel_rfl, by kernel_rfl, by kernel_rfl⟩

set_option maxHeartbeats 4000000 in
theorem fs_FlagsMake (ws : List Nat) (hw : Wd ws) (n : Int) (h0 : -9223372036854775808 ≤ n) (h1 : n ≤ 9223372036854775807) (l : List Int) (hlb : Zb l) : FS Try.prog 3 [U ws, .int .i64 n, Z l] (.bool true) := by
  refine fs_of_cvc mixed cd_fretworklaw03_FlagsMake (by simp) ?_
  have hfw : Wd (ws.take 8) := wd_take hw 8
  have hfl : (ws.take 8).length ≤ 8 := by simp; omega
  have hzl := zs_len l
  have hb : ∀ (l' : List Int), (∀ x ∈ l', x ∈ l) → Zb l' := fun l' h x hx => hlb x (h x hx)
  refine Or.inl ⟨by rfl, _, fs_few ws, ?_⟩
  generalize ws.take 8 = f at hfw hfl
  have et : List.drop (Int.toNat 0) (List.take (Int.toNat 30) (zs l)) = zs (l.take 30) := by
    show List.drop 0 (List.take 30 (zs l)) = _
    rw [List.drop_zero, zs_take]
  have hzl2 := zs_len (l.take 30)
  have ht : (l.take 30).length ≤ 30 := by simp; omega
  have hb2 := hb (l.take 30) fun x hx => List.mem_of_mem_take hx
  have hx1 := Zb.at hlb (Int.toNat 0)
  have hx2 := Zb.at hb2 (Int.toNat 0)
  have hwl : wordsI n ≤ 64 := by unfold wordsI; omega
  repeat' (conv => whnf); first
    | ((refine fun x hx => ?_); (obtain rfl := U_at hx; clear hx))
    | ((refine fun x hx => ?_); (obtain rfl := zs_at hx; clear hx))
    | ((refine fun x hx => ?_); (obtain rfl := ints_at hx; clear hx))
    | ((refine And.intro rfl (And.intro (by simp only [U_len, tab_len, List.length_set]; omega) ?_)))
    | ((refine ar_tdiv (by omega) (by omega) (by omega) ?_))
    | ((refine Br.beq (by rfl) ?_))
    | (refine Br.tt ?_)
    | (refine Br.ff ?_)
    | (refine Br.dec (fun h => ?_) (fun h => ?_)) <;> try (exfalso; omega)
    | (refine Br.neg ?_)
    | (refine Br.mk (fun h => ?_) (fun h => ?_))
    | (refine And.intro rfl ?_)
    | (refine And.intro (by omega) ?_)
    | (refine ⟨_, Or.inl ⟨⟨by omega, by omega⟩, rfl⟩, ?_⟩)
    | (refine And.intro (by simp only [List.length_map, List.length_replicate, List.length_set, List.length_append, List.length_take, List.length_drop, List.length_cons, List.length_nil, U_len, tab_len, ints_len, zs_len]; first | done | omega) ?_)
    | (refine And.intro (Nat.le_refl _) ?_)
    | fail
  · rw [et]
    repeat' (conv => whnf); first
      | ((refine Or.inl ⟨by rfl, _, fs_live, ?_⟩))
      | ((refine Or.inl ⟨by rfl, _, fs_New n h0 h1, ?_⟩))
      | ((refine Or.inl ⟨by rfl, _, fs_rNew n h0 h1, ?_⟩))
      | ((refine Or.inl ⟨by rfl, _, fs_same (by rfl) (by first | (rw [zeroW_len]; omega) | (rw [ofN, puts_len]; simp; omega) | (rw [turn_length]; omega)), ?_⟩))
      | ((refine Or.inl ⟨by rfl, _, fs_Of n h0 h1 (l.take 30) (by omega) hb2, ?_⟩))
      | ((refine Or.inl ⟨by rfl, _, fs_rOf n h0 h1 (l.take 30) (by omega) hb2, ?_⟩))
      | ((refine Or.inl ⟨by rfl, _, fs_Right' f hfw (by omega) n h0 h1, ?_⟩))
      | ((refine Or.inl ⟨by rfl, _, fs_rRight f hfw (by omega) n h0 h1, ?_⟩))
      | ((refine Or.inl ⟨by rfl, _, fs_Has f hfw _ (by omega), ?_⟩))
      | ((refine Or.inl ⟨by rfl, _, fs_rHas f hfw (by omega) _ (by omega), ?_⟩))
      | ((refine Or.inl ⟨by rfl, _, fs_Put f hfw (by omega) _ (by omega), ?_⟩))
      | ((refine Or.inl ⟨by rfl, _, fs_rPut f hfw (by omega) _ (by omega), ?_⟩))
      | ((refine Or.inl ⟨by rfl, _, fs_Drop f hfw (by omega) _ (by omega), ?_⟩))
      | ((refine Or.inl ⟨by rfl, _, fs_rDrop f hfw (by omega) _ (by omega), ?_⟩))
      | ((refine fun x hx => ?_); (obtain rfl := U_at hx; clear hx))
      | ((refine fun x hx => ?_); (obtain rfl := zs_at hx; clear hx))
      | ((refine fun x hx => ?_); (obtain rfl := ints_at hx; clear hx))
      | ((refine And.intro rfl (And.intro (by simp only [U_len, tab_len, List.length_set]; omega) ?_)))
      | ((refine ar_tdiv (by omega) (by omega) (by omega) ?_))
      | ((refine Br.beq (by rfl) ?_))
      | (refine Br.tt ?_)
      | (refine Br.ff ?_)
      | (refine Br.dec (fun h => ?_) (fun h => ?_)) <;> try (exfalso; omega)
      | (refine Br.neg ?_)
      | (refine Br.mk (fun h => ?_) (fun h => ?_))
      | (refine And.intro rfl ?_)
      | (refine And.intro (by omega) ?_)
      | (refine ⟨_, Or.inl ⟨⟨by omega, by omega⟩, rfl⟩, ?_⟩)
      | (refine And.intro (by simp only [List.length_map, List.length_replicate, List.length_set, List.length_append, List.length_take, List.length_drop, List.length_cons, List.length_nil, U_len, tab_len, ints_len, zs_len]; first | done | omega) ?_)
      | (refine And.intro (Nat.le_refl _) ?_)
      | fail
    exact rfl
  · rw [et]
    repeat' (conv => whnf); first
      | ((refine Or.inl ⟨by rfl, _, fs_live, ?_⟩))
      | ((refine Or.inl ⟨by rfl, _, fs_New n h0 h1, ?_⟩))
      | ((refine Or.inl ⟨by rfl, _, fs_rNew n h0 h1, ?_⟩))
      | ((refine Or.inl ⟨by rfl, _, fs_same (by rfl) (by first | (rw [zeroW_len]; omega) | (rw [ofN, puts_len]; simp; omega) | (rw [turn_length]; omega)), ?_⟩))
      | ((refine Or.inl ⟨by rfl, _, fs_Of n h0 h1 (l.take 30) (by omega) hb2, ?_⟩))
      | ((refine Or.inl ⟨by rfl, _, fs_rOf n h0 h1 (l.take 30) (by omega) hb2, ?_⟩))
      | ((refine Or.inl ⟨by rfl, _, fs_Right' f hfw (by omega) n h0 h1, ?_⟩))
      | ((refine Or.inl ⟨by rfl, _, fs_rRight f hfw (by omega) n h0 h1, ?_⟩))
      | ((refine Or.inl ⟨by rfl, _, fs_Has f hfw _ (by omega), ?_⟩))
      | ((refine Or.inl ⟨by rfl, _, fs_rHas f hfw (by omega) _ (by omega), ?_⟩))
      | ((refine Or.inl ⟨by rfl, _, fs_Put f hfw (by omega) _ (by omega), ?_⟩))
      | ((refine Or.inl ⟨by rfl, _, fs_rPut f hfw (by omega) _ (by omega), ?_⟩))
      | ((refine Or.inl ⟨by rfl, _, fs_Drop f hfw (by omega) _ (by omega), ?_⟩))
      | ((refine Or.inl ⟨by rfl, _, fs_rDrop f hfw (by omega) _ (by omega), ?_⟩))
      | ((refine fun x hx => ?_); (obtain rfl := U_at hx; clear hx))
      | ((refine fun x hx => ?_); (obtain rfl := zs_at hx; clear hx))
      | ((refine fun x hx => ?_); (obtain rfl := ints_at hx; clear hx))
      | ((refine And.intro rfl (And.intro (by simp only [U_len, tab_len, List.length_set]; omega) ?_)))
      | ((refine ar_tdiv (by omega) (by omega) (by omega) ?_))
      | ((refine Br.beq (by rfl) ?_))
      | (refine Br.tt ?_)
      | (refine Br.ff ?_)
      | (refine Br.dec (fun h => ?_) (fun h => ?_)) <;> try (exfalso; omega)
      | (refine Br.neg ?_)
      | (refine Br.mk (fun h => ?_) (fun h => ?_))
      | (refine And.intro rfl ?_)
      | (refine And.intro (by omega) ?_)
      | (refine ⟨_, Or.inl ⟨⟨by omega, by omega⟩, rfl⟩, ?_⟩)
      | (refine And.intro (by simp only [List.length_map, List.length_replicate, List.length_set, List.length_append, List.length_take, List.length_drop, List.length_cons, List.length_nil, U_len, tab_len, ints_len, zs_len]; first | done | omega) ?_)
      | (refine And.intro (Nat.le_refl _) ?_)
      | fail
    exact rfl
  · repeat' (conv => whnf); first
      | ((refine Or.inl ⟨by rfl, _, fs_live, ?_⟩))
      | ((refine Or.inl ⟨by rfl, _, fs_New n h0 h1, ?_⟩))
      | ((refine Or.inl ⟨by rfl, _, fs_rNew n h0 h1, ?_⟩))
      | ((refine Or.inl ⟨by rfl, _, fs_same (by rfl) (by first | (rw [zeroW_len]; omega) | (rw [ofN, puts_len]; simp; omega) | (rw [turn_length]; omega)), ?_⟩))
      | ((refine Or.inl ⟨by rfl, _, fs_Of n h0 h1 l (by omega) hlb, ?_⟩))
      | ((refine Or.inl ⟨by rfl, _, fs_rOf n h0 h1 l (by omega) hlb, ?_⟩))
      | ((refine Or.inl ⟨by rfl, _, fs_Right' f hfw (by omega) n h0 h1, ?_⟩))
      | ((refine Or.inl ⟨by rfl, _, fs_rRight f hfw (by omega) n h0 h1, ?_⟩))
      | ((refine Or.inl ⟨by rfl, _, fs_Has f hfw _ (by omega), ?_⟩))
      | ((refine Or.inl ⟨by rfl, _, fs_rHas f hfw (by omega) _ (by omega), ?_⟩))
      | ((refine Or.inl ⟨by rfl, _, fs_Put f hfw (by omega) _ (by omega), ?_⟩))
      | ((refine Or.inl ⟨by rfl, _, fs_rPut f hfw (by omega) _ (by omega), ?_⟩))
      | ((refine Or.inl ⟨by rfl, _, fs_Drop f hfw (by omega) _ (by omega), ?_⟩))
      | ((refine Or.inl ⟨by rfl, _, fs_rDrop f hfw (by omega) _ (by omega), ?_⟩))
      | ((refine fun x hx => ?_); (obtain rfl := U_at hx; clear hx))
      | ((refine fun x hx => ?_); (obtain rfl := zs_at hx; clear hx))
      | ((refine fun x hx => ?_); (obtain rfl := ints_at hx; clear hx))
      | ((refine And.intro rfl (And.intro (by simp only [U_len, tab_len, List.length_set]; omega) ?_)))
      | ((refine ar_tdiv (by omega) (by omega) (by omega) ?_))
      | ((refine Br.beq (by rfl) ?_))
      | (refine Br.tt ?_)
      | (refine Br.ff ?_)
      | (refine Br.dec (fun h => ?_) (fun h => ?_)) <;> try (exfalso; omega)
      | (refine Br.neg ?_)
      | (refine Br.mk (fun h => ?_) (fun h => ?_))
      | (refine And.intro rfl ?_)
      | (refine And.intro (by omega) ?_)
      | (refine ⟨_, Or.inl ⟨⟨by omega, by omega⟩, rfl⟩, ?_⟩)
      | (refine And.intro (by simp only [List.length_map, List.length_replicate, List.length_set, List.length_append, List.length_take, List.length_drop, List.length_cons, List.length_nil, U_len, tab_len, ints_len, zs_len]; first | done | omega) ?_)
      | (refine And.intro (Nat.le_refl _) ?_)
      | fail
    exact rfl
  · repeat' (conv => whnf); first
      | ((refine Or.inl ⟨by rfl, _, fs_live, ?_⟩))
      | ((refine Or.inl ⟨by rfl, _, fs_New n h0 h1, ?_⟩))
      | ((refine Or.inl ⟨by rfl, _, fs_rNew n h0 h1, ?_⟩))
      | ((refine Or.inl ⟨by rfl, _, fs_same (by rfl) (by first | (rw [zeroW_len]; omega) | (rw [ofN, puts_len]; simp; omega) | (rw [turn_length]; omega)), ?_⟩))
      | ((refine Or.inl ⟨by rfl, _, fs_Of n h0 h1 l (by omega) hlb, ?_⟩))
      | ((refine Or.inl ⟨by rfl, _, fs_rOf n h0 h1 l (by omega) hlb, ?_⟩))
      | ((refine Or.inl ⟨by rfl, _, fs_Right' f hfw (by omega) n h0 h1, ?_⟩))
      | ((refine Or.inl ⟨by rfl, _, fs_rRight f hfw (by omega) n h0 h1, ?_⟩))
      | ((refine Or.inl ⟨by rfl, _, fs_Has f hfw _ (by omega), ?_⟩))
      | ((refine Or.inl ⟨by rfl, _, fs_rHas f hfw (by omega) _ (by omega), ?_⟩))
      | ((refine Or.inl ⟨by rfl, _, fs_Put f hfw (by omega) _ (by omega), ?_⟩))
      | ((refine Or.inl ⟨by rfl, _, fs_rPut f hfw (by omega) _ (by omega), ?_⟩))
      | ((refine Or.inl ⟨by rfl, _, fs_Drop f hfw (by omega) _ (by omega), ?_⟩))
      | ((refine Or.inl ⟨by rfl, _, fs_rDrop f hfw (by omega) _ (by omega), ?_⟩))
      | ((refine fun x hx => ?_); (obtain rfl := U_at hx; clear hx))
      | ((refine fun x hx => ?_); (obtain rfl := zs_at hx; clear hx))
      | ((refine fun x hx => ?_); (obtain rfl := ints_at hx; clear hx))
      | ((refine And.intro rfl (And.intro (by simp only [U_len, tab_len, List.length_set]; omega) ?_)))
      | ((refine ar_tdiv (by omega) (by omega) (by omega) ?_))
      | ((refine Br.beq (by rfl) ?_))
      | (refine Br.tt ?_)
      | (refine Br.ff ?_)
      | (refine Br.dec (fun h => ?_) (fun h => ?_)) <;> try (exfalso; omega)
      | (refine Br.neg ?_)
      | (refine Br.mk (fun h => ?_) (fun h => ?_))
      | (refine And.intro rfl ?_)
      | (refine And.intro (by omega) ?_)
      | (refine ⟨_, Or.inl ⟨⟨by omega, by omega⟩, rfl⟩, ?_⟩)
      | (refine And.intro (by simp only [List.length_map, List.length_replicate, List.length_set, List.length_append, List.length_take, List.length_drop, List.length_cons, List.length_nil, U_len, tab_len, ints_len, zs_len]; first | done | omega) ?_)
      | (refine And.intro (Nat.le_refl _) ?_)
      | fail
    exact rfl

end Go.Proofs.Ytefciekodhpefaa
