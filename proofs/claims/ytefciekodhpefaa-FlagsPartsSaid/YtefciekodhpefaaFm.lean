/- The laws on sets of places, the others. -/
import Derived.Test.YtefciekodhpefaaFl
namespace Go.Proofs.Ytefciekodhpefaa
open Go.RowKit
attribute [local irreducible] FS FO IT HS

theorem fs_sameI {a b : List Nat} (h : a = b) (hla : a.length ≤ 1000000000) : FS Try.prog 31 [I a, I b] (.bool true) := by
  have := fs_SameInts (a.map fun (b : Nat) => (b : Int)) (b.map fun (b : Nat) => (b : Int)) (by simp; omega)
  rw [← I_eq, ← I_eq, decide_eq_true (by rw [h])] at this
  exact this
theorem fs_CountN (ws : List Nat) (hw : Wd ws) (hl : ws.length ≤ 1000000) : FS Try.prog 26 [U ws] (.int .i64 ((bits ws).length : Int)) := by
  have := fs_Count ws hw hl
  rwa [cnt_eq hw] at this
theorem fs_RankN (ws : List Nat) (hw : Wd ws) (hl : ws.length ≤ 1000000) (i : Int) (h1 : i ≤ 9223372036854775807) : FS Try.prog 27 [U ws, .int .i64 i] (.int .i64 (rankN ws i : Int)) := by
  have := fs_Rank ws hw hl i h1
  rwa [rankC_eq hw] at this

def ir_fretworklaw03_FlagsAsk : IR :=
(.seq
 (.reg (⟨(some 4), .mv (.c (.bool false)), none⟩ ::
   []))
 (.seq
  (.reg (⟨(some 6), .mv (.t 0), none⟩ ::
    ⟨(some 7), .call (.c (.fn 10 [])) [(.t 6)], none⟩ ::
    ⟨(some 0), .mv (.t 7), none⟩ ::
    []))
  (.seq
   (.reg (⟨(some 8), .mv (.t 0), none⟩ ::
     ⟨(some 9), .call (.c (.fn 25 [])) [(.t 8)], none⟩ ::
     ⟨(some 5), .mv (.t 9), none⟩ ::
     []))
   (.seq
    (.reg (⟨(some 10), .call (.c (.fn 11 [])) [], none⟩ ::
      ⟨(some 11), .mv (.t 10), none⟩ ::
      ⟨(some 12), .mv (.t 0), some (11, true)⟩ ::
      ⟨(some 13), .call (.c (.fn 26 [])) [(.t 12)], some (11, true)⟩ ::
      ⟨(some 14), .mv (.t 5), some (11, true)⟩ ::
      ⟨(some 15), .ln (.t 14), some (11, true)⟩ ::
      ⟨(some 16), .bin .eql (.t 13) (.t 15), some (11, true)⟩ ::
      ⟨(some 17), .pick (.t 11) (.t 16) (.c (.bool false)), none⟩ ::
      ⟨(some 18), .mv (.t 17), none⟩ ::
      ⟨(some 19), .mv (.t 0), some (18, true)⟩ ::
      ⟨(some 20), .mv (.t 1), some (18, true)⟩ ::
      ⟨(some 21), .call (.c (.fn 27 [])) [(.t 19), (.t 20)], some (18, true)⟩ ::
      ⟨(some 22), .mv (.t 0), some (18, true)⟩ ::
      ⟨(some 23), .mv (.t 1), some (18, true)⟩ ::
      ⟨(some 24), .call (.c (.fn 28 [])) [(.t 22), (.t 23)], some (18, true)⟩ ::
      ⟨(some 25), .bin .eql (.t 21) (.t 24), some (18, true)⟩ ::
      ⟨(some 26), .pick (.t 18) (.t 25) (.c (.bool false)), none⟩ ::
      ⟨(some 27), .mv (.t 26), none⟩ ::
      ⟨(some 28), .mv (.t 0), some (27, true)⟩ ::
      ⟨(some 29), .mv (.t 1), some (27, true)⟩ ::
      ⟨(some 30), .call (.c (.fn 29 [])) [(.t 28), (.t 29)], some (27, true)⟩ ::
      ⟨(some 31), .mv (.t 0), some (27, true)⟩ ::
      ⟨(some 32), .mv (.t 1), some (27, true)⟩ ::
      ⟨(some 33), .call (.c (.fn 30 [])) [(.t 31), (.t 32)], some (27, true)⟩ ::
      ⟨(some 34), .bin .eql (.t 30) (.t 33), some (27, true)⟩ ::
      ⟨(some 35), .pick (.t 27) (.t 34) (.c (.bool false)), none⟩ ::
      ⟨(some 36), .mv (.t 35), none⟩ ::
      ⟨(some 37), .mv (.t 0), some (36, true)⟩ ::
      ⟨(some 38), .call (.c (.fn 32 [])) [(.t 37)], some (36, true)⟩ ::
      ⟨(some 39), .mv (.t 5), some (36, true)⟩ ::
      ⟨(some 40), .call (.c (.fn 31 [])) [(.t 38), (.t 39)], some (36, true)⟩ ::
      ⟨(some 41), .pick (.t 36) (.t 40) (.c (.bool false)), none⟩ ::
      ⟨(some 4), .mv (.t 41), none⟩ ::
      []))
    .ret))))
theorem cd_fretworklaw03_FlagsAsk : Code1 Try.prog 4 42 ir_fretworklaw03_FlagsAsk [.t 4] := ⟨Try.call4, _, _, Try.func4, rfl, by kernel_rfl, by kernel_rfl, by kernel_rfl, by kernel_rfl⟩

set_option maxHeartbeats 4000000 in
theorem fs_FlagsAsk (ws : List Nat) (hw : Wd ws) (n : Int) (h1 : n ≤ 9223372036854775807) : FS Try.prog 4 [U ws, .int .i64 n] (.bool true) := by
  refine fs_of_cvc mixed cd_fretworklaw03_FlagsAsk (by simp) ?_
  have hfw : Wd (ws.take 8) := wd_take hw 8
  have hfl : (ws.take 8).length ≤ 8 := by simp; omega
  repeat' (conv => whnf); first
    | ((refine Or.inl ⟨by rfl, _, fs_few ws, ?_⟩))
    | ((refine fun x hx => ?_); (obtain rfl := U_at hx; clear hx))
    | ((refine fun x hx => ?_); (obtain rfl := zs_at hx; clear hx))
    | ((refine fun x hx => ?_); (obtain rfl := ints_at hx; clear hx))
    | ((refine And.intro rfl (And.intro (by simp only [U_len, tab_len, List.length_set]; omega) ?_)))
    | ((refine ar_tdiv (by omega) (by omega) (by omega) ?_))
    | ((refine Br.beq (by rfl) ?_))
    | (refine Br.tt ?_)
    | (refine Br.ff ?_)
    | (refine Br.dec (fun h => ?_) (fun h => ?_)) <;> try (exfalso; omega)
    | (refine Br.neg ?_)
    | (refine Br.mk (fun h => ?_) (fun h => ?_))
    | (refine And.intro rfl ?_)
    | (refine And.intro (by omega) ?_)
    | (refine ⟨_, Or.inl ⟨⟨by omega, by omega⟩, rfl⟩, ?_⟩)
    | (refine And.intro (by simp only [List.length_map, List.length_replicate, List.length_set, List.length_append, List.length_take, List.length_drop, List.length_cons, List.length_nil, U_len, tab_len, ints_len, zs_len]; first | done | omega) ?_)
    | (refine And.intro (Nat.le_refl _) ?_)
    | fail
  generalize ws.take 8 = f at hfw hfl
  have hbl := bits_len f hfw
  have hil := ints_len (bits f)
  repeat' (conv => whnf); first
    | ((refine Or.inl ⟨by rfl, _, fs_live, ?_⟩))
    | ((refine Or.inl ⟨by rfl, _, fs_rList f hfw (by omega), ?_⟩))
    | ((refine Or.inl ⟨by rfl, _, fs_List f hfw (by omega), ?_⟩))
    | ((refine Or.inl ⟨by rfl, _, fs_CountN f hfw (by omega), ?_⟩))
    | ((refine Or.inl ⟨by rfl, _, fs_RankN f hfw (by omega) n h1, ?_⟩))
    | ((refine Or.inl ⟨by rfl, _, fs_rRank f hfw (by omega) n, ?_⟩))
    | ((refine Or.inl ⟨by rfl, _, fs_Next f hfw (by omega) n, ?_⟩))
    | ((refine Or.inl ⟨by rfl, _, fs_rNext f hfw (by omega) n, ?_⟩))
    | ((refine Or.inl ⟨by rfl, _, fs_sameI rfl (by omega), ?_⟩))
    | ((refine fun x hx => ?_); (obtain rfl := U_at hx; clear hx))
    | ((refine fun x hx => ?_); (obtain rfl := zs_at hx; clear hx))
    | ((refine fun x hx => ?_); (obtain rfl := ints_at hx; clear hx))
    | ((refine And.intro rfl (And.intro (by simp only [U_len, tab_len, List.length_set]; omega) ?_)))
    | ((refine ar_tdiv (by omega) (by omega) (by omega) ?_))
    | ((refine Br.beq (by rfl) ?_))
    | (refine Br.tt ?_)
    | (refine Br.ff ?_)
    | (refine Br.dec (fun h => ?_) (fun h => ?_)) <;> try (exfalso; omega)
    | (refine Br.neg ?_)
    | (refine Br.mk (fun h => ?_) (fun h => ?_))
    | (refine And.intro rfl ?_)
    | (refine And.intro (by omega) ?_)
    | (refine ⟨_, Or.inl ⟨⟨by omega, by omega⟩, rfl⟩, ?_⟩)
    | (refine And.intro (by simp only [List.length_map, List.length_replicate, List.length_set, List.length_append, List.length_take, List.length_drop, List.length_cons, List.length_nil, U_len, tab_len, ints_len, zs_len]; first | done | omega) ?_)
    | (refine And.intro (Nat.le_refl _) ?_)
    | fail
  exact rfl

def ir_fretworklaw03_FlagsJoin : IR :=
(.seq
 (.reg (⟨(some 5), .bx (.t 2), none⟩ ::
   ⟨(some 6), .mv (.c (.bool false)), none⟩ ::
   []))
 (.seq
  (.reg (⟨(some 7), .mv (.t 0), none⟩ ::
    ⟨(some 8), .call (.c (.fn 10 [])) [(.t 7)], none⟩ ::
    ⟨(some 9), .mv (.t 1), none⟩ ::
    ⟨(some 10), .call (.c (.fn 10 [])) [(.t 9)], none⟩ ::
    ⟨(some 0), .mv (.t 8), none⟩ ::
    ⟨(some 1), .mv (.t 10), none⟩ ::
    []))
  (.seq
   (.draw (⟨(some 11), .call (.c (.fn 11 [])) [], none⟩ ::
     ⟨(some 12), .mv (.t 11), none⟩ ::
     ⟨(some 13), .mv (.t 0), some (12, true)⟩ ::
     ⟨(some 14), .mv (.t 1), some (12, true)⟩ ::
     ⟨(some 15), .call (.c (.fn 33 [])) [(.t 13), (.t 14)], some (12, true)⟩ ::
     ⟨(some 16), .mv (.t 0), some (12, true)⟩ ::
     ⟨(some 17), .mv (.t 1), some (12, true)⟩ ::
     ⟨(some 18), .call (.c (.fn 34 [])) [(.t 16), (.t 17)], some (12, true)⟩ ::
     ⟨(some 19), .call (.c (.fn 12 [])) [(.t 15), (.t 18)], some (12, true)⟩ ::
     ⟨(some 20), .pick (.t 12) (.t 19) (.c (.bool false)), none⟩ ::
     ⟨(some 21), .mv (.t 20), none⟩ ::
     ⟨(some 22), .mv (.t 0), some (21, true)⟩ ::
     ⟨(some 23), .mv (.t 1), some (21, true)⟩ ::
     ⟨(some 24), .call (.c (.fn 35 [])) [(.t 22), (.t 23)], some (21, true)⟩ ::
     ⟨(some 25), .mv (.t 0), some (21, true)⟩ ::
     ⟨(some 26), .mv (.t 1), some (21, true)⟩ ::
     ⟨(some 27), .call (.c (.fn 36 [])) [(.t 25), (.t 26)], some (21, true)⟩ ::
     ⟨(some 28), .call (.c (.fn 12 [])) [(.t 24), (.t 27)], some (21, true)⟩ ::
     ⟨(some 29), .pick (.t 21) (.t 28) (.c (.bool false)), none⟩ ::
     ⟨(some 30), .mv (.t 29), none⟩ ::
     ⟨(some 31), .mv (.t 0), some (30, true)⟩ ::
     ⟨(some 32), .mv (.t 1), some (30, true)⟩ ::
     ⟨(some 33), .call (.c (.fn 37 [])) [(.t 31), (.t 32)], some (30, true)⟩ ::
     ⟨(some 34), .mv (.t 0), some (30, true)⟩ ::
     ⟨(some 35), .mv (.t 1), some (30, true)⟩ ::
     ⟨(some 36), .call (.c (.fn 38 [])) [(.t 34), (.t 35)], some (30, true)⟩ ::
     ⟨(some 37), .call (.c (.fn 12 [])) [(.t 33), (.t 36)], some (30, true)⟩ ::
     ⟨(some 38), .pick (.t 30) (.t 37) (.c (.bool false)), none⟩ ::
     ⟨(some 39), .mv (.t 38), none⟩ ::
     ⟨(some 40), .mv (.t 0), some (39, true)⟩ ::
     ⟨(some 41), .iaA 2 1 (.t 5) (.c (.int .i64 0)), some (39, true)⟩ ::
     ⟨(some 42), .ld 1 false (.t 41), some (39, true)⟩ ::
     ⟨(some 43), .call (.c (.fn 39 [])) [(.t 40), (.t 42)], some (39, true)⟩ ::
     ⟨(some 44), .mv (.t 0), some (39, true)⟩ ::
     ⟨(some 45), .iaA 2 1 (.t 5) (.c (.int .i64 0)), some (39, true)⟩ ::
     ⟨(some 46), .ld 1 false (.t 45), some (39, true)⟩ ::
     ⟨(some 47), .call (.c (.fn 40 [])) [(.t 44), (.t 46)], some (39, true)⟩ ::
     ⟨(some 48), .call (.c (.fn 12 [])) [(.t 43), (.t 47)], some (39, true)⟩ ::
     ⟨(some 49), .pick (.t 39) (.t 48) (.c (.bool false)), none⟩ ::
     ⟨(some 50), .mv (.t 49), none⟩ ::
     ⟨(some 51), .mv (.t 0), some (50, true)⟩ ::
     ⟨(some 52), .iaA 2 1 (.t 5) (.c (.int .i64 0)), some (50, true)⟩ ::
     ⟨(some 53), .ld 1 false (.t 52), some (50, true)⟩ ::
     ⟨(some 54), .iaA 2 1 (.t 5) (.c (.int .i64 1)), some (50, true)⟩ ::
     ⟨(some 55), .ld 1 false (.t 54), some (50, true)⟩ ::
     ⟨(some 56), .call (.c (.fn 41 [])) [(.t 51), (.t 53), (.t 55)], some (50, true)⟩ ::
     ⟨(some 57), .mv (.t 0), some (50, true)⟩ ::
     ⟨(some 58), .iaA 2 1 (.t 5) (.c (.int .i64 0)), some (50, true)⟩ ::
     ⟨(some 59), .ld 1 false (.t 58), some (50, true)⟩ ::
     ⟨(some 60), .iaA 2 1 (.t 5) (.c (.int .i64 1)), some (50, true)⟩ ::
     ⟨(some 61), .ld 1 false (.t 60), some (50, true)⟩ ::
     ⟨(some 62), .call (.c (.fn 42 [])) [(.t 57), (.t 59), (.t 61)], some (50, true)⟩ ::
     ⟨(some 63), .call (.c (.fn 12 [])) [(.t 56), (.t 62)], some (50, true)⟩ ::
     ⟨(some 64), .pick (.t 50) (.t 63) (.c (.bool false)), none⟩ ::
     ⟨(some 6), .mv (.t 64), none⟩ ::
     [])
    ([]))
   .ret)))
theorem cd_fretworklaw03_FlagsJoin : Code1 Try.prog 5 65 ir_fretworklaw03_FlagsJoin [.t 6] := ⟨Try.call5, _, _, Try.func5, rfl, by kernel_rfl, by kernel_rfl, by kernel_rfl, by kernel_rfl⟩

set_option maxHeartbeats 4000000 in
theorem fs_FlagsJoin (a b : List Nat) (ha : Wd a) (hb : Wd b) (n m : Int) (hn0 : -9223372036854775808 ≤ n) (hn1 : n ≤ 9223372036854775807) (hm0 : -9223372036854775808 ≤ m) (hm1 : m ≤ 9223372036854775807) : FS Try.prog 5 [U a, U b, .agg [.int .i64 n, .int .i64 m]] (.bool true) := by
  refine fs_of_cvc mixed cd_fretworklaw03_FlagsJoin (by simp) ?_
  have haw : Wd (a.take 8) := wd_take ha 8
  have hal : (a.take 8).length ≤ 8 := by simp; omega
  have hbw : Wd (b.take 8) := wd_take hb 8
  have hbl : (b.take 8).length ≤ 8 := by simp; omega
  repeat' (conv => whnf); first
    | ((refine Or.inl ⟨by rfl, _, fs_few a, ?_⟩))
    | ((refine Or.inl ⟨by rfl, _, fs_few b, ?_⟩))
    | ((refine fun x hx => ?_); (obtain rfl := U_at hx; clear hx))
    | ((refine fun x hx => ?_); (obtain rfl := zs_at hx; clear hx))
    | ((refine fun x hx => ?_); (obtain rfl := ints_at hx; clear hx))
    | ((refine And.intro rfl (And.intro (by simp only [U_len, tab_len, List.length_set]; omega) ?_)))
    | ((refine ar_tdiv (by omega) (by omega) (by omega) ?_))
    | ((refine Br.beq (by rfl) ?_))
    | (refine Br.tt ?_)
    | (refine Br.ff ?_)
    | (refine Br.dec (fun h => ?_) (fun h => ?_)) <;> try (exfalso; omega)
    | (refine Br.neg ?_)
    | (refine Br.mk (fun h => ?_) (fun h => ?_))
    | (refine And.intro rfl ?_)
    | (refine And.intro (by omega) ?_)
    | (refine ⟨_, Or.inl ⟨⟨by omega, by omega⟩, rfl⟩, ?_⟩)
    | (refine And.intro (by simp only [List.length_map, List.length_replicate, List.length_set, List.length_append, List.length_take, List.length_drop, List.length_cons, List.length_nil, U_len, tab_len, ints_len, zs_len]; first | done | omega) ?_)
    | (refine And.intro (Nat.le_refl _) ?_)
    | fail
  generalize a.take 8 = f at haw hal
  generalize b.take 8 = g at hbw hbl
  have hpl := partU_len f n m
  have hfl := flipN_len f n
  have hwl : wordsI n ≤ 64 := by unfold wordsI; omega
  repeat' (conv => whnf); first
    | ((refine Or.inl ⟨by rfl, _, fs_live, ?_⟩))
    | ((refine Or.inl ⟨by rfl, _, fs_Union f g haw hbw (by omega) (by omega), ?_⟩))
    | ((refine Or.inl ⟨by rfl, _, fs_rUnion f g haw hbw (by omega) (by omega), ?_⟩))
    | ((refine Or.inl ⟨by rfl, _, fs_Both f g haw hbw (by omega) (by omega), ?_⟩))
    | ((refine Or.inl ⟨by rfl, _, fs_rBoth f g haw hbw (by omega) (by omega), ?_⟩))
    | ((refine Or.inl ⟨by rfl, _, fs_Minus f g haw hbw (by omega) (by omega), ?_⟩))
    | ((refine Or.inl ⟨by rfl, _, fs_rMinus f g haw hbw (by omega) (by omega), ?_⟩))
    | ((refine Or.inl ⟨by rfl, _, fs_Flip f haw (by omega) n hn0 hn1, ?_⟩))
    | ((refine Or.inl ⟨by rfl, _, fs_rFlip f haw (by omega) n hn0 hn1, ?_⟩))
    | ((refine Or.inl ⟨by rfl, _, fs_PartU f haw (by omega) n m hn0 hn1 hm0 hm1, ?_⟩))
    | ((refine Or.inl ⟨by rfl, _, fs_rPartU f haw (by omega) n m hn0 hn1 hm0 hm1, ?_⟩))
    | ((refine Or.inl ⟨by rfl, _, fs_same (by first | exact flipN_eq haw n | with_reducible rfl) (by first | omega | (rw [joinU, tab_len]; omega) | (rw [joinB, tab_len]; omega) | (rw [joinM, tab_len]; omega)), ?_⟩))
    | ((refine fun x hx => ?_); (obtain rfl := U_at hx; clear hx))
    | ((refine fun x hx => ?_); (obtain rfl := zs_at hx; clear hx))
    | ((refine fun x hx => ?_); (obtain rfl := ints_at hx; clear hx))
    | ((refine And.intro rfl (And.intro (by simp only [U_len, tab_len, List.length_set]; omega) ?_)))
    | ((refine ar_tdiv (by omega) (by omega) (by omega) ?_))
    | ((refine Br.beq (by rfl) ?_))
    | (refine Br.tt ?_)
    | (refine Br.ff ?_)
    | (refine Br.dec (fun h => ?_) (fun h => ?_)) <;> try (exfalso; omega)
    | (refine Br.neg ?_)
    | (refine Br.mk (fun h => ?_) (fun h => ?_))
    | (refine And.intro rfl ?_)
    | (refine And.intro (by omega) ?_)
    | (refine ⟨_, Or.inl ⟨⟨by omega, by omega⟩, rfl⟩, ?_⟩)
    | (refine And.intro (by simp only [List.length_map, List.length_replicate, List.length_set, List.length_append, List.length_take, List.length_drop, List.length_cons, List.length_nil, U_len, tab_len, ints_len, zs_len]; first | done | omega) ?_)
    | (refine And.intro (Nat.le_refl _) ?_)
    | fail
  exact rfl

end Go.Proofs.Ytefciekodhpefaa
