/- The document's sets of places: ranks, what two come to, parts. -/
import Derived.Test.YtefciekodhpefaaFh
namespace Go.Proofs.Ytefciekodhpefaa
open Go.RowKit
attribute [local irreducible] FS FO IT HS

theorem nextI_neg {ws : List Nat} {n : Int} : nextI ws n < 0 ↔ ∀ b ∈ bits ws, (b : Int) < n := by
  unfold nextI
  cases h : (bits ws).find? (fun (b : Nat) => decide (n ≤ (b : Int))) with
  | none =>
    rw [List.find?_eq_none] at h
    simp only [decide_eq_true_eq] at h
    show (-1 : Int) < 0 ↔ _
    refine ⟨fun _ b hb => ?_, fun _ => by omega⟩
    have := h b hb; omega
  | some b =>
    have h1 := List.mem_of_find?_eq_some h
    have h2 := List.find?_some h
    simp only [decide_eq_true_eq] at h2
    show (b : Int) < 0 ↔ _
    refine ⟨fun hh => by omega, fun hh => ?_⟩
    have := hh b h1; omega

/-- A set of so many places. -/
def rightB (ws : List Nat) (n : Int) : Bool := decide (0 ≤ n) && (decide (n ≤ 4096) && (decide ((ws.length : Int) = wordsI n) && decide (nextI ws n < 0)))
theorem sorted_last {l : List Nat} (h : l.Pairwise (· < ·)) {n : Int} : (∀ b ∈ l, (b : Int) < n) ↔ l.length = 0 ∨ ((l.getD (l.length - 1) 0 : Nat) : Int) < n := by
  constructor
  · intro hh
    by_cases h0 : l.length = 0
    · exact .inl h0
    · refine .inr (hh _ ?_)
      exact List.mem_of_getElem? (getD_get 0 (show l.length - 1 < l.length by omega))
  · rintro (h0 | h0) b hb
    · rw [List.length_eq_zero_iff.1 h0] at hb; simp at hb
    · obtain ⟨i, hi, rfl⟩ := List.getElem_of_mem hb
      by_cases e : i = l.length - 1
      · subst e
        rw [List.getD_eq_getElem?_getD, List.getElem?_eq_getElem hi] at h0
        exact h0
      · have := List.pairwise_iff_getElem.1 h i (l.length - 1) hi (by omega) (by omega)
        rw [List.getD_eq_getElem?_getD, List.getElem?_eq_getElem (by omega)] at h0
        have h0' : ((l[l.length - 1] : Nat) : Int) < n := h0
        omega

def ir_fretworkref03_Right : IR :=
(.seq
 (.reg (⟨(some 4), .mv (.c (.bool false)), none⟩ ::
   []))
 (.seq
  (.seq
   (.reg (⟨(some 6), .mv (.t 1), none⟩ ::
     ⟨(some 7), .bin .lss (.t 6) (.c (.int .i64 0)), none⟩ ::
     ⟨(some 8), .mv (.t 7), none⟩ ::
     ⟨(some 9), .mv (.t 1), some (8, false)⟩ ::
     ⟨(some 10), .bin .gtr (.t 9) (.c (.int .i64 4096)), some (8, false)⟩ ::
     ⟨(some 11), .pick (.t 8) (.c (.bool true)) (.t 10), none⟩ ::
     ⟨(some 12), .mv (.t 11), none⟩ ::
     ⟨(some 13), .mv (.t 0), some (12, false)⟩ ::
     ⟨(some 14), .ln (.t 13), some (12, false)⟩ ::
     ⟨(some 15), .mv (.t 1), some (12, false)⟩ ::
     ⟨(some 16), .call (.c (.fn 48 [])) [(.t 15)], some (12, false)⟩ ::
     ⟨(some 17), .bin .neq (.t 14) (.t 16), some (12, false)⟩ ::
     ⟨(some 18), .pick (.t 12) (.c (.bool true)) (.t 17), none⟩ ::
     []))
   (.cond (.t 18)
    (.seq
     (.reg (⟨(some 4), .mv (.c (.bool false)), none⟩ ::
       []))
     .ret)
    .skip))
  (.seq
   (.reg (⟨(some 19), .mv (.t 0), none⟩ ::
     ⟨(some 20), .call (.c (.fn 25 [])) [(.t 19)], none⟩ ::
     ⟨(some 5), .mv (.t 20), none⟩ ::
     []))
   (.seq
    (.reg (⟨(some 21), .mv (.t 5), none⟩ ::
      ⟨(some 22), .ln (.t 21), none⟩ ::
      ⟨(some 23), .bin .eql (.t 22) (.c (.int .i64 0)), none⟩ ::
      ⟨(some 24), .mv (.t 23), none⟩ ::
      ⟨(some 25), .mv (.t 5), some (24, false)⟩ ::
      ⟨(some 26), .mv (.t 5), some (24, false)⟩ ::
      ⟨(some 27), .ln (.t 26), some (24, false)⟩ ::
      ⟨(some 28), .bin .sub (.t 27) (.c (.int .i64 1)), some (24, false)⟩ ::
      ⟨(some 29), .ia 1 (.t 25) (.t 28), some (24, false)⟩ ::
      ⟨(some 30), .ld 1 false (.t 29), some (24, false)⟩ ::
      ⟨(some 31), .mv (.t 1), some (24, false)⟩ ::
      ⟨(some 32), .bin .lss (.t 30) (.t 31), some (24, false)⟩ ::
      ⟨(some 33), .pick (.t 24) (.c (.bool true)) (.t 32), none⟩ ::
      ⟨(some 4), .mv (.t 33), none⟩ ::
      []))
    .ret))))
theorem cd_fretworkref03_Right : Code1 Try.prog 18 34 ir_fretworkref03_Right [.t 4] := ⟨Try.call18, _, _, Try.func18, rfl, by kernel_rfl, by kernel_rfl, by kernel_rfl, by kernel_rfl⟩

theorem fs_rRight (ws : List Nat) (hw : Wd ws) (hl : ws.length ≤ 1000000) (n : Int) (h0 : -9223372036854775808 ≤ n) (h1 : n ≤ 9223372036854775807) : FS Try.prog 18 [U ws, .int .i64 n] (.bool (rightB ws n)) := by
  refine fs_of_cvc mixed cd_fretworkref03_Right (by simp) ?_
  have hul := U_len ws
  have hil := ints_len (bits ws)
  have hbl := bits_len ws hw
  have hiff := (nextI_neg (ws := ws) (n := n)).trans (sorted_last (bits_sorted hw))
  repeat' (conv => whnf); first
    | ((refine Or.inl ⟨rfl, _, fs_rwords n h0 h1, ?_⟩))
    | ((refine Or.inl ⟨rfl, _, fs_rList ws hw hl, ?_⟩))
    | ((refine fun x hx => ?_); (obtain rfl := U_at hx; clear hx))
    | ((refine fun x hx => ?_); (obtain rfl := zs_at hx; clear hx))
    | ((refine fun x hx => ?_); (obtain rfl := ints_at hx; clear hx))
    | ((refine And.intro rfl (And.intro (by simp only [U_len, tab_len, List.length_set]; omega) ?_)))
    | ((refine ar_tdiv (by omega) (by omega) (by omega) ?_))
    | (refine Br.tt ?_)
    | (refine Br.ff ?_)
    | (refine Br.dec (fun h => ?_) (fun h => ?_)) <;> try (exfalso; omega)
    | (refine Br.neg ?_)
    | (refine Br.mk (fun h => ?_) (fun h => ?_))
    | (refine And.intro rfl ?_)
    | (refine And.intro (by omega) ?_)
    | (refine ⟨_, Or.inl ⟨⟨by omega, by omega⟩, rfl⟩, ?_⟩)
    | (refine And.intro (by simp only [List.length_map, List.length_replicate, List.length_set, List.length_append, List.length_take, List.length_drop, List.length_cons, List.length_nil, U_len, tab_len, ints_len, zs_len]; first | done | omega) ?_)
    | (refine And.intro (Nat.le_refl _) ?_)
    | fail
  · show SV.bool false = _
    simp [rightB, show ¬ 0 ≤ n by omega]
  · show SV.bool false = _
    simp [rightB, show ¬ n ≤ 4096 by omega]
  · show SV.bool false = _
    simp [rightB, show ¬ (ws.length : Int) = wordsI n by omega]
  · show SV.bool true = _
    simp [rightB, show 0 ≤ n by omega, show n ≤ 4096 by omega, show (ws.length : Int) = wordsI n by omega, hiff.2 (.inl (by omega))]
  · have e : (bits ws).getD (((ints (bits ws)).length : Int) - 1).toNat 0 = (bits ws).getD ((bits ws).length - 1) 0 := by rw [hil]; congr 1; omega
    show SV.bool (decide (((bits ws).getD (((ints (bits ws)).length : Int) - 1).toNat 0 : Int) < n)) = _
    rw [e]
    simp only [rightB, show 0 ≤ n by omega, show n ≤ 4096 by omega, show (ws.length : Int) = wordsI n by omega, decide_true, Bool.true_and]
    congr 1
    rw [Bool.eq_iff_iff, decide_eq_true_iff, decide_eq_true_iff, hiff]
    exact ⟨.inr, fun hh => hh.resolve_left (by omega)⟩

/-- How many places there are below one. -/
def rankN (ws : List Nat) (i : Int) : Nat := ((bits ws).filter fun (b : Nat) => decide ((b : Int) < i)).length
def ir_fretworkref03_Rank : IR :=
(.seq
 (.reg (⟨(some 4), .mv (.c (.int .i64 0)), none⟩ ::
   []))
 (.seq
  (.reg (⟨(some 5), .mv (.c (.int .i64 0)), none⟩ ::
    []))
  (.seq
   (.reg (⟨(some 8), .mv (.t 0), none⟩ ::
     ⟨(some 9), .call (.c (.fn 25 [])) [(.t 8)], none⟩ ::
     ⟨(some 6), .mv (.t 9), none⟩ ::
     []))
   (.seq
    (.seq
     (.reg (⟨(some 7), .mv (.c (.int .i64 0)), none⟩ ::
       []))
     (.block 0
      (.loop
       (.seq
        (.seq
         (.reg (⟨(some 10), .mv (.t 7), none⟩ ::
           ⟨(some 11), .mv (.t 6), none⟩ ::
           ⟨(some 12), .ln (.t 11), none⟩ ::
           ⟨(some 13), .bin .lss (.t 10) (.t 12), none⟩ ::
           []))
         (.cond (.t 13)
          .skip
          (.exit 0)))
        (.seq
         (.block 1
          (.seq
           (.reg (⟨(some 16), .mv (.t 6), none⟩ ::
             ⟨(some 17), .mv (.t 7), none⟩ ::
             ⟨(some 18), .ia 1 (.t 16) (.t 17), none⟩ ::
             ⟨(some 19), .ld 1 false (.t 18), none⟩ ::
             ⟨(some 20), .mv (.t 1), none⟩ ::
             ⟨(some 21), .bin .lss (.t 19) (.t 20), none⟩ ::
             []))
           (.cond (.t 21)
            (.reg (⟨(some 22), .mv (.t 5), none⟩ ::
              ⟨(some 23), .bin .add (.t 22) (.c (.int .i64 1)), none⟩ ::
              ⟨(some 5), .mv (.t 23), none⟩ ::
              []))
            .skip)))
         (.reg (⟨(some 14), .mv (.t 7), none⟩ ::
           ⟨(some 15), .bin .add (.t 14) (.c (.int .i64 1)), none⟩ ::
           ⟨(some 7), .mv (.t 15), none⟩ ::
           [])))))))
    (.seq
     (.reg (⟨(some 24), .mv (.t 5), none⟩ ::
       ⟨(some 4), .mv (.t 24), none⟩ ::
       []))
     .ret)))))
theorem cd_fretworkref03_Rank : Code1 Try.prog 28 25 ir_fretworkref03_Rank [.t 4] := ⟨Try.call28, _, _, Try.func28, rfl, by kernel_rfl, by kernel_rfl, by kernel_rfl, by kernel_rfl⟩

theorem fs_rRank (ws : List Nat) (hw : Wd ws) (hl : ws.length ≤ 1000000) (i : Int) : FS Try.prog 28 [U ws, .int .i64 i] (.int .i64 (rankN ws i : Int)) := by
  refine fs_of_cvc mixed cd_fretworkref03_Rank (by simp) ?_
  have hil := ints_len (bits ws)
  have hbl := bits_len ws hw
  repeat' (conv => whnf); first
    | ((refine Or.inl ⟨rfl, _, fs_rList ws hw hl, ?_⟩))
    | ((refine fun x hx => ?_); (obtain rfl := U_at hx; clear hx))
    | ((refine fun x hx => ?_); (obtain rfl := zs_at hx; clear hx))
    | ((refine fun x hx => ?_); (obtain rfl := ints_at hx; clear hx))
    | ((refine And.intro rfl (And.intro (by simp only [U_len, tab_len, List.length_set]; omega) ?_)))
    | ((refine ar_tdiv (by omega) (by omega) (by omega) ?_))
    | (refine Br.tt ?_)
    | (refine Br.ff ?_)
    | (refine Br.dec (fun h => ?_) (fun h => ?_)) <;> try (exfalso; omega)
    | (refine Br.neg ?_)
    | (refine Br.mk (fun h => ?_) (fun h => ?_))
    | (refine And.intro rfl ?_)
    | (refine And.intro (by omega) ?_)
    | (refine ⟨_, Or.inl ⟨⟨by omega, by omega⟩, rfl⟩, ?_⟩)
    | (refine And.intro (by simp only [List.length_map, List.length_replicate, List.length_set, List.length_append, List.length_take, List.length_drop, List.length_cons, List.length_nil, U_len, tab_len, ints_len, zs_len]; first | done | omega) ?_)
    | (refine And.intro (Nat.le_refl _) ?_)
    | fail
  refine ⟨Nat, fun k => k ≤ (bits ws).length, fun k => [(1, .int .i64 i), (5, .int .i64 ((((bits ws).take k).filter fun (b : Nat) => decide ((b : Int) < i)).length : Nat)), (6, I (bits ws)), (7, .int .i64 (k : Int))], fun k => [], fun _ => none, fun k => (bits ws).length - k, ⟨0, by omega, ⟨rfl, rfl, rfl, rfl, trivial⟩, trivial, rfl⟩, fun k hk => ?_⟩
  have hk' : k ≤ (bits ws).length := hk
  have hfl := List.length_filter_le (fun (b : Nat) => decide ((b : Int) < i)) ((bits ws).take k)
  rw [List.length_take] at hfl
  repeat' (conv => whnf); first
    | ((refine fun x hx => ?_); (obtain rfl := U_at hx; clear hx))
    | ((refine fun x hx => ?_); (obtain rfl := zs_at hx; clear hx))
    | ((refine fun x hx => ?_); (obtain rfl := ints_at hx; clear hx))
    | ((refine And.intro rfl (And.intro (by simp only [U_len, tab_len, List.length_set]; omega) ?_)))
    | ((refine ar_tdiv (by omega) (by omega) (by omega) ?_))
    | (refine Br.tt ?_)
    | (refine Br.ff ?_)
    | (refine Br.dec (fun h => ?_) (fun h => ?_)) <;> try (exfalso; omega)
    | (refine Br.neg ?_)
    | (refine Br.mk (fun h => ?_) (fun h => ?_))
    | (refine And.intro rfl ?_)
    | (refine And.intro (by omega) ?_)
    | (refine ⟨_, Or.inl ⟨⟨by omega, by omega⟩, rfl⟩, ?_⟩)
    | (refine And.intro (by simp only [List.length_map, List.length_replicate, List.length_set, List.length_append, List.length_take, List.length_drop, List.length_cons, List.length_nil, U_len, tab_len, ints_len, zs_len]; first | done | omega) ?_)
    | (refine And.intro (Nat.le_refl _) ?_)
    | fail
  · refine ⟨k + 1, (show k + 1 ≤ (bits ws).length by omega), (show (bits ws).length - (k + 1) < (bits ws).length - k by omega), ⟨rfl, ?_, rfl, rfl, trivial⟩, trivial, rfl⟩
    show SV.int .i64 (((((bits ws).take k).filter fun (b : Nat) => decide ((b : Int) < i)).length : Int) + 1) = SV.int .i64 ((((bits ws).take (k + 1)).filter fun (b : Nat) => decide ((b : Int) < i)).length : Nat)
    rw [List.take_add_one, getD_get 0 (show k < (bits ws).length by omega), List.filter_append]
    simp only [Option.toList_some, List.filter_cons, List.filter_nil]
    rw [if_pos (by simpa using h)]
    simp
  · refine ⟨k + 1, (show k + 1 ≤ (bits ws).length by omega), (show (bits ws).length - (k + 1) < (bits ws).length - k by omega), ⟨rfl, ?_, rfl, rfl, trivial⟩, trivial, rfl⟩
    show SV.int .i64 ((((bits ws).take k).filter fun (b : Nat) => decide ((b : Int) < i)).length : Nat) = SV.int .i64 ((((bits ws).take (k + 1)).filter fun (b : Nat) => decide ((b : Int) < i)).length : Nat)
    rw [List.take_add_one, getD_get 0 (show k < (bits ws).length by omega), List.filter_append]
    simp only [Option.toList_some, List.filter_cons, List.filter_nil]
    rw [if_neg (by simpa using h)]
    simp
  · have hkl : k = (bits ws).length := by omega
    show SV.int .i64 _ = _
    rw [hkl, List.take_length]; rfl

def ir_fretworkref03_Next : IR :=
(.seq
 (.reg (⟨(some 4), .mv (.c (.int .i64 0)), none⟩ ::
   []))
 (.seq
  (.reg (⟨(some 7), .mv (.t 0), none⟩ ::
    ⟨(some 8), .call (.c (.fn 25 [])) [(.t 7)], none⟩ ::
    ⟨(some 5), .mv (.t 8), none⟩ ::
    []))
  (.seq
   (.seq
    (.reg (⟨(some 6), .mv (.c (.int .i64 0)), none⟩ ::
      []))
    (.block 0
     (.loop
      (.seq
       (.seq
        (.reg (⟨(some 9), .mv (.t 6), none⟩ ::
          ⟨(some 10), .mv (.t 5), none⟩ ::
          ⟨(some 11), .ln (.t 10), none⟩ ::
          ⟨(some 12), .bin .lss (.t 9) (.t 11), none⟩ ::
          []))
        (.cond (.t 12)
         .skip
         (.exit 0)))
       (.seq
        (.block 1
         (.seq
          (.reg (⟨(some 15), .mv (.t 5), none⟩ ::
            ⟨(some 16), .mv (.t 6), none⟩ ::
            ⟨(some 17), .ia 1 (.t 15) (.t 16), none⟩ ::
            ⟨(some 18), .ld 1 false (.t 17), none⟩ ::
            ⟨(some 19), .mv (.t 1), none⟩ ::
            ⟨(some 20), .bin .geq (.t 18) (.t 19), none⟩ ::
            []))
          (.cond (.t 20)
           (.seq
            (.reg (⟨(some 21), .mv (.t 5), none⟩ ::
              ⟨(some 22), .mv (.t 6), none⟩ ::
              ⟨(some 23), .ia 1 (.t 21) (.t 22), none⟩ ::
              ⟨(some 24), .ld 1 false (.t 23), none⟩ ::
              ⟨(some 4), .mv (.t 24), none⟩ ::
              []))
            .ret)
           .skip)))
        (.reg (⟨(some 13), .mv (.t 6), none⟩ ::
          ⟨(some 14), .bin .add (.t 13) (.c (.int .i64 1)), none⟩ ::
          ⟨(some 6), .mv (.t 14), none⟩ ::
          [])))))))
   (.seq
    (.reg (⟨(some 4), .mv (.c (.int .i64 (-1))), none⟩ ::
      []))
    .ret))))
theorem cd_fretworkref03_Next : Code1 Try.prog 30 25 ir_fretworkref03_Next [.t 4] := ⟨Try.call30, _, _, Try.func30, rfl, by kernel_rfl, by kernel_rfl, by kernel_rfl, by kernel_rfl⟩

theorem fs_rNext (ws : List Nat) (hw : Wd ws) (hl : ws.length ≤ 1000000) (i : Int) : FS Try.prog 30 [U ws, .int .i64 i] (.int .i64 (nextI ws i)) := by
  refine fs_of_cvc mixed cd_fretworkref03_Next (by simp) ?_
  have hil := ints_len (bits ws)
  have hbl := bits_len ws hw
  repeat' (conv => whnf); first
    | ((refine Or.inl ⟨rfl, _, fs_rList ws hw hl, ?_⟩))
    | ((refine fun x hx => ?_); (obtain rfl := U_at hx; clear hx))
    | ((refine fun x hx => ?_); (obtain rfl := zs_at hx; clear hx))
    | ((refine fun x hx => ?_); (obtain rfl := ints_at hx; clear hx))
    | ((refine And.intro rfl (And.intro (by simp only [U_len, tab_len, List.length_set]; omega) ?_)))
    | ((refine ar_tdiv (by omega) (by omega) (by omega) ?_))
    | (refine Br.tt ?_)
    | (refine Br.ff ?_)
    | (refine Br.dec (fun h => ?_) (fun h => ?_)) <;> try (exfalso; omega)
    | (refine Br.neg ?_)
    | (refine Br.mk (fun h => ?_) (fun h => ?_))
    | (refine And.intro rfl ?_)
    | (refine And.intro (by omega) ?_)
    | (refine ⟨_, Or.inl ⟨⟨by omega, by omega⟩, rfl⟩, ?_⟩)
    | (refine And.intro (by simp only [List.length_map, List.length_replicate, List.length_set, List.length_append, List.length_take, List.length_drop, List.length_cons, List.length_nil, U_len, tab_len, ints_len, zs_len]; first | done | omega) ?_)
    | (refine And.intro (Nat.le_refl _) ?_)
    | fail
  refine ⟨Nat, fun k => k ≤ (bits ws).length ∧ ∀ b ∈ (bits ws).take k, (b : Int) < i, fun k => [(1, .int .i64 i), (5, I (bits ws)), (6, .int .i64 (k : Int))], fun k => [], fun _ => none, fun k => (bits ws).length - k, ⟨0, ⟨by omega, by simp⟩, ⟨rfl, rfl, rfl, trivial⟩, trivial, rfl⟩, fun k hk => ?_⟩
  have hk' : k ≤ (bits ws).length := hk.1
  repeat' (conv => whnf); first
    | ((refine fun x hx => ?_); (obtain rfl := U_at hx; clear hx))
    | ((refine fun x hx => ?_); (obtain rfl := zs_at hx; clear hx))
    | ((refine fun x hx => ?_); (obtain rfl := ints_at hx; clear hx))
    | ((refine And.intro rfl (And.intro (by simp only [U_len, tab_len, List.length_set]; omega) ?_)))
    | ((refine ar_tdiv (by omega) (by omega) (by omega) ?_))
    | (refine Br.tt ?_)
    | (refine Br.ff ?_)
    | (refine Br.dec (fun h => ?_) (fun h => ?_)) <;> try (exfalso; omega)
    | (refine Br.neg ?_)
    | (refine Br.mk (fun h => ?_) (fun h => ?_))
    | (refine And.intro rfl ?_)
    | (refine And.intro (by omega) ?_)
    | (refine ⟨_, Or.inl ⟨⟨by omega, by omega⟩, rfl⟩, ?_⟩)
    | (refine And.intro (by simp only [List.length_map, List.length_replicate, List.length_set, List.length_append, List.length_take, List.length_drop, List.length_cons, List.length_nil, U_len, tab_len, ints_len, zs_len]; first | done | omega) ?_)
    | (refine And.intro (Nat.le_refl _) ?_)
    | fail
  · show SV.int .i64 (((bits ws).getD k 0 : Nat) : Int) = _
    have hlt : k < (bits ws).length := by omega
    rw [nextI, find_at (getD_get 0 hlt) (by simpa using h) fun j x hj hx => by simpa using hk.2 x (List.mem_of_getElem? (i := j) (by rw [List.getElem?_take_of_lt hj]; exact hx))]
  · refine ⟨k + 1, ⟨(show k + 1 ≤ (bits ws).length by omega), fun c hc => ?_⟩, (show (bits ws).length - (k + 1) < (bits ws).length - k by omega), ⟨rfl, rfl, rfl, trivial⟩, trivial, rfl⟩
    rw [List.take_add_one, getD_get 0 (show k < (bits ws).length by omega)] at hc
    simp only [Option.toList_some, List.mem_append, List.mem_singleton] at hc
    rcases hc with hc | rfl
    · exact hk.2 c hc
    · simpa using h
  · have hkl : k = (bits ws).length := by omega
    show SV.int .i64 (-1) = _
    have := hk.2
    rw [hkl, List.take_length] at this
    have : (bits ws).find? (fun (b : Nat) => decide (i ≤ (b : Int))) = none := by
      rw [List.find?_eq_none]
      intro b hb
      have := this b hb
      simp; omega
    rw [nextI, this]

def ir_fretworkref03_word : IR :=
(.seq
 (.reg (⟨(some 4), .mv (.c (.int .u64 0)), none⟩ ::
   []))
 (.seq
  (.seq
   (.reg (⟨(some 5), .mv (.t 1), none⟩ ::
     ⟨(some 6), .mv (.t 0), none⟩ ::
     ⟨(some 7), .ln (.t 6), none⟩ ::
     ⟨(some 8), .bin .lss (.t 5) (.t 7), none⟩ ::
     []))
   (.cond (.t 8)
    (.seq
     (.reg (⟨(some 9), .mv (.t 0), none⟩ ::
       ⟨(some 10), .mv (.t 1), none⟩ ::
       ⟨(some 11), .ia 1 (.t 9) (.t 10), none⟩ ::
       ⟨(some 12), .ld 1 false (.t 11), none⟩ ::
       ⟨(some 4), .mv (.t 12), none⟩ ::
       []))
     .ret)
    .skip))
  (.seq
   (.reg (⟨(some 4), .mv (.c (.int .u64 0)), none⟩ ::
     []))
   .ret)))
theorem cd_fretworkref03_word : Code1 Try.prog 58 13 ir_fretworkref03_word [.t 4] := ⟨Try.call58, _, _, Try.func58, rfl, by kernel_rfl, by kernel_rfl, by kernel_rfl, by kernel_rfl⟩

theorem fs_word (ws : List Nat) (k : Nat) : FS Try.prog 58 [U ws, .int .i64 (k : Int)] (.int .u64 ((ws.getD k 0 : Nat) : Int)) := by
  refine fs_of_cvc mixed cd_fretworkref03_word (by simp) ?_
  have hul := U_len ws
  repeat' (conv => whnf); first
    | ((refine fun x hx => ?_); (obtain rfl := U_at hx; clear hx))
    | ((refine fun x hx => ?_); (obtain rfl := zs_at hx; clear hx))
    | ((refine fun x hx => ?_); (obtain rfl := ints_at hx; clear hx))
    | ((refine And.intro rfl (And.intro (by simp only [U_len, tab_len, List.length_set]; omega) ?_)))
    | ((refine ar_tdiv (by omega) (by omega) (by omega) ?_))
    | (refine Br.tt ?_)
    | (refine Br.ff ?_)
    | (refine Br.dec (fun h => ?_) (fun h => ?_)) <;> try (exfalso; omega)
    | (refine Br.neg ?_)
    | (refine Br.mk (fun h => ?_) (fun h => ?_))
    | (refine And.intro rfl ?_)
    | (refine And.intro (by omega) ?_)
    | (refine ⟨_, Or.inl ⟨⟨by omega, by omega⟩, rfl⟩, ?_⟩)
    | (refine And.intro (by simp only [List.length_map, List.length_replicate, List.length_set, List.length_append, List.length_take, List.length_drop, List.length_cons, List.length_nil, U_len, tab_len, ints_len, zs_len]; first | done | omega) ?_)
    | (refine And.intro (Nat.le_refl _) ?_)
    | fail
  · exact rfl
  · show SV.int .u64 0 = _
    rw [List.getD_eq_getElem?_getD, List.getElem?_eq_none (by omega)]; rfl


def ir_fretworkref03_Union : IR :=
(.seq
 (.reg (⟨(some 4), .mv (.c (.nils)), none⟩ ::
   []))
 (.seq
  (.reg (⟨(some 7), .mv (.t 0), none⟩ ::
    ⟨(some 8), .ln (.t 7), none⟩ ::
    ⟨(some 9), .mv (.t 1), none⟩ ::
    ⟨(some 10), .ln (.t 9), none⟩ ::
    ⟨(some 11), .mm true [(.t 8), (.t 10)], none⟩ ::
    ⟨(some 12), .mk 1 8 [.int .u64 0] (.t 11) (.t 11), none⟩ ::
    ⟨(some 5), .mv (.t 12), none⟩ ::
    []))
  (.seq
   (.seq
    (.reg (⟨(some 6), .mv (.c (.int .i64 0)), none⟩ ::
      []))
    (.block 0
     (.loop
      (.seq
       (.seq
        (.reg (⟨(some 13), .mv (.t 6), none⟩ ::
          ⟨(some 14), .mv (.t 5), none⟩ ::
          ⟨(some 15), .ln (.t 14), none⟩ ::
          ⟨(some 16), .bin .lss (.t 13) (.t 15), none⟩ ::
          []))
        (.cond (.t 16)
         .skip
         (.exit 0)))
       (.seq
        (.block 1
         (.reg (⟨(some 19), .mv (.t 5), none⟩ ::
           ⟨(some 20), .mv (.t 6), none⟩ ::
           ⟨(some 21), .mv (.t 0), none⟩ ::
           ⟨(some 22), .mv (.t 6), none⟩ ::
           ⟨(some 23), .call (.c (.fn 58 [])) [(.t 21), (.t 22)], none⟩ ::
           ⟨(some 24), .mv (.t 1), none⟩ ::
           ⟨(some 25), .mv (.t 6), none⟩ ::
           ⟨(some 26), .call (.c (.fn 58 [])) [(.t 24), (.t 25)], none⟩ ::
           ⟨(some 27), .bin .or (.t 23) (.t 26), none⟩ ::
           ⟨(some 28), .ia 1 (.t 19) (.t 20), none⟩ ::
           ⟨none, .st 1 (.t 28) (.t 27), none⟩ ::
           [])))
        (.reg (⟨(some 17), .mv (.t 6), none⟩ ::
          ⟨(some 18), .bin .add (.t 17) (.c (.int .i64 1)), none⟩ ::
          ⟨(some 6), .mv (.t 18), none⟩ ::
          [])))))))
   (.seq
    (.reg (⟨(some 29), .mv (.t 5), none⟩ ::
      ⟨(some 4), .mv (.t 29), none⟩ ::
      []))
    .ret))))
theorem cd_fretworkref03_Union : Code1 Try.prog 34 30 ir_fretworkref03_Union [.t 4] := ⟨Try.call34, _, _, Try.func34, rfl, by kernel_rfl, by kernel_rfl, by kernel_rfl, by kernel_rfl⟩

theorem fs_rUnion (a b : List Nat) (ha : Wd a) (hb : Wd b) (hla : a.length ≤ 1000000) (hlb : b.length ≤ 1000000) : FS Try.prog 34 [U a, U b] (U (joinU a b)) := by
  refine fs_of_cvc mixed cd_fretworkref03_Union (by simp) ?_
  have h1 := U_len a
  have h2 := U_len b
  generalize hn : max a.length b.length = n
  have en : (max ((uw a).length : Int) ((uw b).length : Int)).toNat = n := by omega
  repeat' (conv => whnf); first
    | ((refine fun x hx => ?_); (obtain rfl := U_at hx; clear hx))
    | ((refine fun x hx => ?_); (obtain rfl := zs_at hx; clear hx))
    | ((refine fun x hx => ?_); (obtain rfl := ints_at hx; clear hx))
    | ((refine And.intro rfl (And.intro (by simp only [U_len, tab_len, List.length_set]; omega) ?_)))
    | ((refine ar_tdiv (by omega) (by omega) (by omega) ?_))
    | (refine Br.tt ?_)
    | (refine Br.ff ?_)
    | (refine Br.dec (fun h => ?_) (fun h => ?_)) <;> try (exfalso; omega)
    | (refine Br.neg ?_)
    | (refine Br.mk (fun h => ?_) (fun h => ?_))
    | (refine And.intro rfl ?_)
    | (refine And.intro (by omega) ?_)
    | (refine ⟨_, Or.inl ⟨⟨by omega, by omega⟩, rfl⟩, ?_⟩)
    | (refine And.intro (by simp only [List.length_map, List.length_replicate, List.length_set, List.length_append, List.length_take, List.length_drop, List.length_cons, List.length_nil, U_len, tab_len, ints_len, zs_len]; first | done | omega) ?_)
    | (refine And.intro (Nat.le_refl _) ?_)
    | fail
  refine ⟨Nat, fun k => k ≤ n, fun k => [(0, U a), (1, U b), (5, .osl 0 1 0 n), (6, .int .i64 (k : Int))], fun k => [.arr 1 (uw (tab n fun i => if i < k then a.getD i 0 ||| b.getD i 0 else 0))], fun _ => none, fun k => n - k, ⟨0, by omega, ⟨rfl, rfl, ?_, rfl, trivial⟩, ⟨?_, trivial⟩, rfl⟩, fun k hk => ?_⟩
  · show SV.osl 0 1 0 (max ((uw a).length : Int) ((uw b).length : Int)).toNat = _
    rw [en]
  · show Blk.arr 1 (List.replicate (max ((uw a).length : Int) ((uw b).length : Int)).toNat [.int .u64 0]) = _
    rw [en, ← tab_zero]; simp [uw]
  have hk' : k ≤ n := hk
  repeat' (conv => whnf); first
    | ((refine Or.inl ⟨rfl, _, fs_word a k, ?_⟩))
    | ((refine Or.inl ⟨rfl, _, fs_word b k, ?_⟩))
    | ((refine And.intro rfl (And.intro (by omega) (And.intro (by omega) ?_))))
    | ((refine ⟨_, uw_at (by simp only [tab_len]; omega), ?_⟩))
    | ((refine fun x hx => ?_); (obtain rfl := U_at hx; clear hx))
    | ((refine fun x hx => ?_); (obtain rfl := zs_at hx; clear hx))
    | ((refine fun x hx => ?_); (obtain rfl := ints_at hx; clear hx))
    | ((refine And.intro rfl (And.intro (by simp only [U_len, tab_len, List.length_set]; omega) ?_)))
    | ((refine ar_tdiv (by omega) (by omega) (by omega) ?_))
    | (refine Br.tt ?_)
    | (refine Br.ff ?_)
    | (refine Br.dec (fun h => ?_) (fun h => ?_)) <;> try (exfalso; omega)
    | (refine Br.neg ?_)
    | (refine Br.mk (fun h => ?_) (fun h => ?_))
    | (refine And.intro rfl ?_)
    | (refine And.intro (by omega) ?_)
    | (refine ⟨_, Or.inl ⟨⟨by omega, by omega⟩, rfl⟩, ?_⟩)
    | (refine And.intro (by simp only [List.length_map, List.length_replicate, List.length_set, List.length_append, List.length_take, List.length_drop, List.length_cons, List.length_nil, U_len, tab_len, ints_len, zs_len]; first | done | omega) ?_)
    | (refine And.intro (Nat.le_refl _) ?_)
    | fail
  · refine ⟨k + 1, (show k + 1 ≤ n by omega), (show n - (k + 1) < n - k by omega), ⟨rfl, rfl, rfl, rfl, trivial⟩, ⟨?_, trivial⟩, rfl⟩
    show Blk.arr 1 ((uw _).set (0 + k) [.int .u64 (bOr .u64 ((a.getD k 0 : Nat) : Int) ((b.getD k 0 : Nat) : Int))]) = _
    rw [bOr_u64 (getD_lt ha k) (getD_lt hb k), Nat.zero_add, uw_set, tab_set (fun i => a.getD i 0 ||| b.getD i 0) fun _ => 0]
  · have hkn : n ≤ k := by omega
    show SV.slc 1 (List.take n (List.drop 0 (uw (tab n _)))) = _
    rw [tab_full _ _ hkn, frz_U (tab_len _ _).symm, joinU, hn]
    rfl

def ir_fretworkref03_Both : IR :=
(.seq
 (.reg (⟨(some 4), .mv (.c (.nils)), none⟩ ::
   []))
 (.seq
  (.reg (⟨(some 7), .mv (.t 0), none⟩ ::
    ⟨(some 8), .ln (.t 7), none⟩ ::
    ⟨(some 9), .mk 1 8 [.int .u64 0] (.t 8) (.t 8), none⟩ ::
    ⟨(some 5), .mv (.t 9), none⟩ ::
    []))
  (.seq
   (.seq
    (.reg (⟨(some 6), .mv (.c (.int .i64 0)), none⟩ ::
      []))
    (.block 0
     (.loop
      (.seq
       (.seq
        (.reg (⟨(some 10), .mv (.t 6), none⟩ ::
          ⟨(some 11), .mv (.t 5), none⟩ ::
          ⟨(some 12), .ln (.t 11), none⟩ ::
          ⟨(some 13), .bin .lss (.t 10) (.t 12), none⟩ ::
          []))
        (.cond (.t 13)
         .skip
         (.exit 0)))
       (.seq
        (.block 1
         (.draw (⟨(some 16), .mv (.t 5), none⟩ ::
           ⟨(some 17), .mv (.t 6), none⟩ ::
           ⟨(some 18), .mv (.t 0), none⟩ ::
           ⟨(some 19), .mv (.t 6), none⟩ ::
           ⟨(some 20), .ia 1 (.t 18) (.t 19), none⟩ ::
           ⟨(some 21), .ld 1 false (.t 20), none⟩ ::
           ⟨(some 22), .mv (.t 1), none⟩ ::
           ⟨(some 23), .mv (.t 6), none⟩ ::
           ⟨(some 24), .call (.c (.fn 58 [])) [(.t 22), (.t 23)], none⟩ ::
           ⟨(some 25), .bin .and (.t 21) (.t 24), none⟩ ::
           ⟨(some 26), .ia 1 (.t 16) (.t 17), none⟩ ::
           [])
          (⟨none, .st 1 (.t 26) (.t 25), none⟩ ::
           [])))
        (.reg (⟨(some 14), .mv (.t 6), none⟩ ::
          ⟨(some 15), .bin .add (.t 14) (.c (.int .i64 1)), none⟩ ::
          ⟨(some 6), .mv (.t 15), none⟩ ::
          [])))))))
   (.seq
    (.reg (⟨(some 27), .mv (.t 5), none⟩ ::
      ⟨(some 4), .mv (.t 27), none⟩ ::
      []))
    .ret))))
theorem cd_fretworkref03_Both : Code1 Try.prog 36 28 ir_fretworkref03_Both [.t 4] := ⟨Try.call36, _, _, Try.func36, rfl, by kernel_rfl, by kernel_rfl, by kernel_rfl, by kernel_rfl⟩

theorem fs_rBoth (a b : List Nat) (ha : Wd a) (hb : Wd b) (hla : a.length ≤ 1000000) (hlb : b.length ≤ 1000000) : FS Try.prog 36 [U a, U b] (U (joinB a b)) := by
  refine fs_of_cvc mixed cd_fretworkref03_Both (by simp) ?_
  have h1 := U_len a
  have h2 := U_len b
  generalize hn : a.length = n
  have en : (((uw a).length : Int)).toNat = n := by omega
  repeat' (conv => whnf); first
    | ((refine fun x hx => ?_); (obtain rfl := U_at hx; clear hx))
    | ((refine fun x hx => ?_); (obtain rfl := zs_at hx; clear hx))
    | ((refine fun x hx => ?_); (obtain rfl := ints_at hx; clear hx))
    | ((refine And.intro rfl (And.intro (by simp only [U_len, tab_len, List.length_set]; omega) ?_)))
    | ((refine ar_tdiv (by omega) (by omega) (by omega) ?_))
    | (refine Br.tt ?_)
    | (refine Br.ff ?_)
    | (refine Br.dec (fun h => ?_) (fun h => ?_)) <;> try (exfalso; omega)
    | (refine Br.neg ?_)
    | (refine Br.mk (fun h => ?_) (fun h => ?_))
    | (refine And.intro rfl ?_)
    | (refine And.intro (by omega) ?_)
    | (refine ⟨_, Or.inl ⟨⟨by omega, by omega⟩, rfl⟩, ?_⟩)
    | (refine And.intro (by simp only [List.length_map, List.length_replicate, List.length_set, List.length_append, List.length_take, List.length_drop, List.length_cons, List.length_nil, U_len, tab_len, ints_len, zs_len]; first | done | omega) ?_)
    | (refine And.intro (Nat.le_refl _) ?_)
    | fail
  refine ⟨Nat, fun k => k ≤ n, fun k => [(0, U a), (1, U b), (5, .osl 0 1 0 n), (6, .int .i64 (k : Int))], fun k => [.arr 1 (uw (tab n fun i => if i < k then a.getD i 0 &&& b.getD i 0 else 0))], fun _ => none, fun k => n - k, ⟨0, by omega, ⟨rfl, rfl, ?_, rfl, trivial⟩, ⟨?_, trivial⟩, rfl⟩, fun k hk => ?_⟩
  · show SV.osl 0 1 0 (((uw a).length : Int)).toNat = _
    rw [en]
  · show Blk.arr 1 (List.replicate (((uw a).length : Int)).toNat [.int .u64 0]) = _
    rw [en, ← tab_zero]; simp [uw]
  have hk' : k ≤ n := hk
  repeat' (conv => whnf); first
    | ((refine Or.inl ⟨rfl, _, fs_word a k, ?_⟩))
    | ((refine Or.inl ⟨rfl, _, fs_word b k, ?_⟩))
    | ((refine And.intro rfl (And.intro (by omega) (And.intro (by omega) ?_))))
    | ((refine ⟨_, uw_at (by simp only [tab_len]; omega), ?_⟩))
    | ((refine fun x hx => ?_); (obtain rfl := U_at hx; clear hx))
    | ((refine fun x hx => ?_); (obtain rfl := zs_at hx; clear hx))
    | ((refine fun x hx => ?_); (obtain rfl := ints_at hx; clear hx))
    | ((refine And.intro rfl (And.intro (by simp only [U_len, tab_len, List.length_set]; omega) ?_)))
    | ((refine ar_tdiv (by omega) (by omega) (by omega) ?_))
    | (refine Br.tt ?_)
    | (refine Br.ff ?_)
    | (refine Br.dec (fun h => ?_) (fun h => ?_)) <;> try (exfalso; omega)
    | (refine Br.neg ?_)
    | (refine Br.mk (fun h => ?_) (fun h => ?_))
    | (refine And.intro rfl ?_)
    | (refine And.intro (by omega) ?_)
    | (refine ⟨_, Or.inl ⟨⟨by omega, by omega⟩, rfl⟩, ?_⟩)
    | (refine And.intro (by simp only [List.length_map, List.length_replicate, List.length_set, List.length_append, List.length_take, List.length_drop, List.length_cons, List.length_nil, U_len, tab_len, ints_len, zs_len]; first | done | omega) ?_)
    | (refine And.intro (Nat.le_refl _) ?_)
    | fail
  · refine ⟨k + 1, (show k + 1 ≤ n by omega), (show n - (k + 1) < n - k by omega), ⟨rfl, rfl, rfl, rfl, trivial⟩, ⟨?_, trivial⟩, rfl⟩
    show Blk.arr 1 ((uw _).set (0 + k) [.int .u64 (bAnd .u64 ((a.getD k 0 : Nat) : Int) ((b.getD k 0 : Nat) : Int))]) = _
    rw [bAnd_u64 (getD_lt ha k) (getD_lt hb k), Nat.zero_add, uw_set, tab_set (fun i => a.getD i 0 &&& b.getD i 0) fun _ => 0]
  · have hkn : n ≤ k := by omega
    show SV.slc 1 (List.take n (List.drop 0 (uw (tab n _)))) = _
    rw [tab_full _ _ hkn, frz_U (tab_len _ _).symm, joinB, hn]
    rfl

def ir_fretworkref03_Minus : IR :=
(.seq
 (.reg (⟨(some 4), .mv (.c (.nils)), none⟩ ::
   []))
 (.seq
  (.reg (⟨(some 7), .mv (.t 0), none⟩ ::
    ⟨(some 8), .ln (.t 7), none⟩ ::
    ⟨(some 9), .mk 1 8 [.int .u64 0] (.t 8) (.t 8), none⟩ ::
    ⟨(some 5), .mv (.t 9), none⟩ ::
    []))
  (.seq
   (.seq
    (.reg (⟨(some 6), .mv (.c (.int .i64 0)), none⟩ ::
      []))
    (.block 0
     (.loop
      (.seq
       (.seq
        (.reg (⟨(some 10), .mv (.t 6), none⟩ ::
          ⟨(some 11), .mv (.t 5), none⟩ ::
          ⟨(some 12), .ln (.t 11), none⟩ ::
          ⟨(some 13), .bin .lss (.t 10) (.t 12), none⟩ ::
          []))
        (.cond (.t 13)
         .skip
         (.exit 0)))
       (.seq
        (.block 1
         (.draw (⟨(some 16), .mv (.t 5), none⟩ ::
           ⟨(some 17), .mv (.t 6), none⟩ ::
           ⟨(some 18), .mv (.t 0), none⟩ ::
           ⟨(some 19), .mv (.t 6), none⟩ ::
           ⟨(some 20), .ia 1 (.t 18) (.t 19), none⟩ ::
           ⟨(some 21), .ld 1 false (.t 20), none⟩ ::
           ⟨(some 22), .mv (.t 1), none⟩ ::
           ⟨(some 23), .mv (.t 6), none⟩ ::
           ⟨(some 24), .call (.c (.fn 58 [])) [(.t 22), (.t 23)], none⟩ ::
           ⟨(some 25), .bin .andNot (.t 21) (.t 24), none⟩ ::
           ⟨(some 26), .ia 1 (.t 16) (.t 17), none⟩ ::
           [])
          (⟨none, .st 1 (.t 26) (.t 25), none⟩ ::
           [])))
        (.reg (⟨(some 14), .mv (.t 6), none⟩ ::
          ⟨(some 15), .bin .add (.t 14) (.c (.int .i64 1)), none⟩ ::
          ⟨(some 6), .mv (.t 15), none⟩ ::
          [])))))))
   (.seq
    (.reg (⟨(some 27), .mv (.t 5), none⟩ ::
      ⟨(some 4), .mv (.t 27), none⟩ ::
      []))
    .ret))))
theorem cd_fretworkref03_Minus : Code1 Try.prog 38 28 ir_fretworkref03_Minus [.t 4] := ⟨Try.call38, _, _, Try.func38, rfl, by kernel_rfl, by kernel_rfl, by kernel_rfl, by kernel_rfl⟩

theorem fs_rMinus (a b : List Nat) (ha : Wd a) (hb : Wd b) (hla : a.length ≤ 1000000) (hlb : b.length ≤ 1000000) : FS Try.prog 38 [U a, U b] (U (joinM a b)) := by
  refine fs_of_cvc mixed cd_fretworkref03_Minus (by simp) ?_
  have h1 := U_len a
  have h2 := U_len b
  generalize hn : a.length = n
  have en : (((uw a).length : Int)).toNat = n := by omega
  repeat' (conv => whnf); first
    | ((refine fun x hx => ?_); (obtain rfl := U_at hx; clear hx))
    | ((refine fun x hx => ?_); (obtain rfl := zs_at hx; clear hx))
    | ((refine fun x hx => ?_); (obtain rfl := ints_at hx; clear hx))
    | ((refine And.intro rfl (And.intro (by simp only [U_len, tab_len, List.length_set]; omega) ?_)))
    | ((refine ar_tdiv (by omega) (by omega) (by omega) ?_))
    | (refine Br.tt ?_)
    | (refine Br.ff ?_)
    | (refine Br.dec (fun h => ?_) (fun h => ?_)) <;> try (exfalso; omega)
    | (refine Br.neg ?_)
    | (refine Br.mk (fun h => ?_) (fun h => ?_))
    | (refine And.intro rfl ?_)
    | (refine And.intro (by omega) ?_)
    | (refine ⟨_, Or.inl ⟨⟨by omega, by omega⟩, rfl⟩, ?_⟩)
    | (refine And.intro (by simp only [List.length_map, List.length_replicate, List.length_set, List.length_append, List.length_take, List.length_drop, List.length_cons, List.length_nil, U_len, tab_len, ints_len, zs_len]; first | done | omega) ?_)
    | (refine And.intro (Nat.le_refl _) ?_)
    | fail
  refine ⟨Nat, fun k => k ≤ n, fun k => [(0, U a), (1, U b), (5, .osl 0 1 0 n), (6, .int .i64 (k : Int))], fun k => [.arr 1 (uw (tab n fun i => if i < k then natAndNot (a.getD i 0) (b.getD i 0) else 0))], fun _ => none, fun k => n - k, ⟨0, by omega, ⟨rfl, rfl, ?_, rfl, trivial⟩, ⟨?_, trivial⟩, rfl⟩, fun k hk => ?_⟩
  · show SV.osl 0 1 0 (((uw a).length : Int)).toNat = _
    rw [en]
  · show Blk.arr 1 (List.replicate (((uw a).length : Int)).toNat [.int .u64 0]) = _
    rw [en, ← tab_zero]; simp [uw]
  have hk' : k ≤ n := hk
  repeat' (conv => whnf); first
    | ((refine Or.inl ⟨rfl, _, fs_word a k, ?_⟩))
    | ((refine Or.inl ⟨rfl, _, fs_word b k, ?_⟩))
    | ((refine And.intro rfl (And.intro (by omega) (And.intro (by omega) ?_))))
    | ((refine ⟨_, uw_at (by simp only [tab_len]; omega), ?_⟩))
    | ((refine fun x hx => ?_); (obtain rfl := U_at hx; clear hx))
    | ((refine fun x hx => ?_); (obtain rfl := zs_at hx; clear hx))
    | ((refine fun x hx => ?_); (obtain rfl := ints_at hx; clear hx))
    | ((refine And.intro rfl (And.intro (by simp only [U_len, tab_len, List.length_set]; omega) ?_)))
    | ((refine ar_tdiv (by omega) (by omega) (by omega) ?_))
    | (refine Br.tt ?_)
    | (refine Br.ff ?_)
    | (refine Br.dec (fun h => ?_) (fun h => ?_)) <;> try (exfalso; omega)
    | (refine Br.neg ?_)
    | (refine Br.mk (fun h => ?_) (fun h => ?_))
    | (refine And.intro rfl ?_)
    | (refine And.intro (by omega) ?_)
    | (refine ⟨_, Or.inl ⟨⟨by omega, by omega⟩, rfl⟩, ?_⟩)
    | (refine And.intro (by simp only [List.length_map, List.length_replicate, List.length_set, List.length_append, List.length_take, List.length_drop, List.length_cons, List.length_nil, U_len, tab_len, ints_len, zs_len]; first | done | omega) ?_)
    | (refine And.intro (Nat.le_refl _) ?_)
    | fail
  · refine ⟨k + 1, (show k + 1 ≤ n by omega), (show n - (k + 1) < n - k by omega), ⟨rfl, rfl, rfl, rfl, trivial⟩, ⟨?_, trivial⟩, rfl⟩
    show Blk.arr 1 ((uw _).set (0 + k) [.int .u64 (bAndNot .u64 ((a.getD k 0 : Nat) : Int) ((b.getD k 0 : Nat) : Int))]) = _
    rw [bAndNot_u64 (getD_lt ha k) (getD_lt hb k), Nat.zero_add, uw_set, tab_set (fun i => natAndNot (a.getD i 0) (b.getD i 0)) fun _ => 0]
  · have hkn : n ≤ k := by omega
    show SV.slc 1 (List.take n (List.drop 0 (uw (tab n _)))) = _
    rw [tab_full _ _ hkn, frz_U (tab_len _ _).symm, joinM, hn]
    rfl

/-- All others of so many places, one after the other. -/
def flipL (a : List Nat) (k : Nat) : List Int := ((List.range k).filter fun i => !hasN a i).map fun (i : Nat) => (i : Int)
def flipR (a : List Nat) (n : Int) : List Nat := puts some (zeroW n) (flipL a (min n (64 * wordsI n : Nat)).toNat)

def ir_fretworkref03_Flip : IR :=
(.seq
 (.reg (⟨(some 4), .mv (.c (.nils)), none⟩ ::
   []))
 (.seq
  (.reg (⟨(some 7), .mv (.t 1), none⟩ ::
    ⟨(some 8), .call (.c (.fn 14 [])) [(.t 7)], none⟩ ::
    ⟨(some 5), .mv (.t 8), none⟩ ::
    []))
  (.seq
   (.seq
    (.reg (⟨(some 6), .mv (.c (.int .i64 0)), none⟩ ::
      []))
    (.block 0
     (.loop
      (.seq
       (.seq
        (.reg (⟨(some 9), .mv (.t 6), none⟩ ::
          ⟨(some 10), .mv (.t 1), none⟩ ::
          ⟨(some 11), .bin .lss (.t 9) (.t 10), none⟩ ::
          ⟨(some 12), .mv (.t 11), none⟩ ::
          ⟨(some 13), .mv (.t 6), some (12, true)⟩ ::
          ⟨(some 14), .mv (.t 5), some (12, true)⟩ ::
          ⟨(some 15), .ln (.t 14), some (12, true)⟩ ::
          ⟨(some 16), .bin .mul (.c (.int .i64 64)) (.t 15), some (12, true)⟩ ::
          ⟨(some 17), .bin .lss (.t 13) (.t 16), some (12, true)⟩ ::
          ⟨(some 18), .pick (.t 12) (.t 17) (.c (.bool false)), none⟩ ::
          []))
        (.cond (.t 18)
         .skip
         (.exit 0)))
       (.seq
        (.block 1
         (.seq
          (.reg (⟨(some 21), .mv (.t 0), none⟩ ::
            ⟨(some 22), .mv (.t 6), none⟩ ::
            ⟨(some 23), .call (.c (.fn 20 [])) [(.t 21), (.t 22)], none⟩ ::
            ⟨(some 24), .un .not (.t 23), none⟩ ::
            []))
          (.cond (.t 24)
           (.reg (⟨(some 25), .mv (.t 5), none⟩ ::
             ⟨(some 26), .mv (.t 6), none⟩ ::
             ⟨(some 27), .call (.c (.fn 22 [])) [(.t 25), (.t 26)], none⟩ ::
             ⟨(some 5), .mv (.t 27), none⟩ ::
             []))
           .skip)))
        (.reg (⟨(some 19), .mv (.t 6), none⟩ ::
          ⟨(some 20), .bin .add (.t 19) (.c (.int .i64 1)), none⟩ ::
          ⟨(some 6), .mv (.t 20), none⟩ ::
          [])))))))
   (.seq
    (.reg (⟨(some 28), .mv (.t 5), none⟩ ::
      ⟨(some 4), .mv (.t 28), none⟩ ::
      []))
    .ret))))
theorem cd_fretworkref03_Flip : Code1 Try.prog 40 29 ir_fretworkref03_Flip [.t 4] := ⟨Try.call40, _, _, Try.func40, rfl, by kernel_rfl, by kernel_rfl, by kernel_rfl, by kernel_rfl⟩

theorem fs_rFlip (a : List Nat) (ha : Wd a) (hla : a.length ≤ 1000000) (n : Int) (h0 : -9223372036854775808 ≤ n) (h1 : n ≤ 9223372036854775807) : FS Try.prog 40 [U a, .int .i64 n] (U (flipR a n)) := by
  refine fs_of_cvc mixed cd_fretworkref03_Flip (by simp) ?_
  have hwl : wordsI n ≤ 64 := by unfold wordsI; omega
  generalize hm : (min n (64 * wordsI n : Nat)).toNat = m
  repeat' (conv => whnf); first
    | ((refine Or.inl ⟨rfl, _, fs_rNew n h0 h1, ?_⟩))
    | ((refine fun x hx => ?_); (obtain rfl := U_at hx; clear hx))
    | ((refine fun x hx => ?_); (obtain rfl := zs_at hx; clear hx))
    | ((refine fun x hx => ?_); (obtain rfl := ints_at hx; clear hx))
    | ((refine And.intro rfl (And.intro (by simp only [U_len, tab_len, List.length_set]; omega) ?_)))
    | ((refine ar_tdiv (by omega) (by omega) (by omega) ?_))
    | (refine Br.tt ?_)
    | (refine Br.ff ?_)
    | (refine Br.dec (fun h => ?_) (fun h => ?_)) <;> try (exfalso; omega)
    | (refine Br.neg ?_)
    | (refine Br.mk (fun h => ?_) (fun h => ?_))
    | (refine And.intro rfl ?_)
    | (refine And.intro (by omega) ?_)
    | (refine ⟨_, Or.inl ⟨⟨by omega, by omega⟩, rfl⟩, ?_⟩)
    | (refine And.intro (by simp only [List.length_map, List.length_replicate, List.length_set, List.length_append, List.length_take, List.length_drop, List.length_cons, List.length_nil, U_len, tab_len, ints_len, zs_len]; first | done | omega) ?_)
    | (refine And.intro (Nat.le_refl _) ?_)
    | fail
  refine ⟨Nat, fun k => k ≤ m, fun k => [(0, U a), (1, .int .i64 n), (5, U (puts some (zeroW n) (flipL a k))), (6, .int .i64 (k : Int))], fun k => [], fun _ => none, fun k => m - k, ⟨0, by omega, ⟨rfl, rfl, rfl, rfl, trivial⟩, trivial, rfl⟩, fun k hk => ?_⟩
  have hk' : k ≤ m := hk
  have hul := U_len (puts some (zeroW n) (flipL a k))
  rw [puts_len, zeroW_len] at hul
  have hlen : (puts some (zeroW n) (flipL a k)).length = wordsI n := by rw [puts_len, zeroW_len]
  have hwd : Wd (puts some (zeroW n) (flipL a k)) := puts_wd _ _ _ (wd_zero _)
  obtain ⟨b, hb⟩ : ∃ b, hasN a k = b := ⟨_, rfl⟩
  have hH : k < 9223372036854775807 → FS Try.prog 20 [U a, .int .i64 (k : Int)] (.bool b) := fun h => by
    have := fs_rHas a ha hla k (by omega)
    rwa [show hasI a k = b by rw [← hb]; simp [hasI]] at this
  have next : puts some (zeroW n) (flipL a (k + 1)) = if b then puts some (zeroW n) (flipL a k) else put1 (puts some (zeroW n) (flipL a k)) k := by
    rw [flipL, List.range_succ, List.filter_append, List.map_append, flipL, puts, List.foldl_append]
    cases b <;> simp [hb, puts]
  repeat' (conv => whnf); first
    | ((refine Or.inl ⟨rfl, _, hH (by omega), ?_⟩))
    | ((refine Or.inl ⟨rfl, _, fs_rPut _ hwd (by omega) _ (by omega), ?_⟩))
    | ((refine fun x hx => ?_); (obtain rfl := U_at hx; clear hx))
    | ((refine fun x hx => ?_); (obtain rfl := zs_at hx; clear hx))
    | ((refine fun x hx => ?_); (obtain rfl := ints_at hx; clear hx))
    | ((refine And.intro rfl (And.intro (by simp only [U_len, tab_len, List.length_set]; omega) ?_)))
    | ((refine ar_tdiv (by omega) (by omega) (by omega) ?_))
    | (refine Br.tt ?_)
    | (refine Br.ff ?_)
    | (refine Br.dec (fun h => ?_) (fun h => ?_)) <;> try (exfalso; omega)
    | (refine Br.neg ?_)
    | (refine Br.mk (fun h => ?_) (fun h => ?_))
    | (refine And.intro rfl ?_)
    | (refine And.intro (by omega) ?_)
    | (refine ⟨_, Or.inl ⟨⟨by omega, by omega⟩, rfl⟩, ?_⟩)
    | (refine And.intro (by simp only [List.length_map, List.length_replicate, List.length_set, List.length_append, List.length_take, List.length_drop, List.length_cons, List.length_nil, U_len, tab_len, ints_len, zs_len]; first | done | omega) ?_)
    | (refine And.intro (Nat.le_refl _) ?_)
    | fail
  · subst h
    refine ⟨k + 1, (show k + 1 ≤ m by omega), (show m - (k + 1) < m - k by omega), ⟨rfl, rfl, ?_, rfl, trivial⟩, trivial, rfl⟩
    show U (puts some (zeroW n) (flipL a k)) = U (puts some (zeroW n) (flipL a (k + 1)))
    rw [next, if_pos rfl]
  · subst h
    refine ⟨k + 1, (show k + 1 ≤ m by omega), (show m - (k + 1) < m - k by omega), ⟨rfl, rfl, ?_, rfl, trivial⟩, trivial, rfl⟩
    show U (put1 (puts some (zeroW n) (flipL a k)) k) = U (puts some (zeroW n) (flipL a (k + 1)))
    rw [next, if_neg (by simp)]
  all_goals
    have hkm : k = m := by omega
    show U (puts some (zeroW n) (flipL a k)) = _
    rw [flipR, hm, hkm]; rfl

theorem put1_out {ws : List Nat} {j : Int} (h : j < 0 ∨ 64 * (ws.length : Int) ≤ j) : put1 ws j = ws := by
  rw [put1, turn, if_neg]
  simp only [inW, Bool.and_eq_true, decide_eq_true_eq]
  omega
theorem puts_same {len : Nat} (p p' : Int → Option Int) (h : ∀ i, p i = p' i ∨ ∃ j, p i = some j ∧ p' i = none ∧ (j < 0 ∨ 64 * (len : Int) ≤ j)) : ∀ (l : List Int) (ws : List Nat), ws.length = len → puts p ws l = puts p' ws l
  | [], _, _ => rfl
  | x :: l, ws, hl => by
    have e : (match p x with | some j => put1 ws j | none => ws) = (match p' x with | some j => put1 ws j | none => ws) := by
      rcases h x with h | ⟨j, h1, h2, h3⟩
      · rw [h]
      · rw [h1, h2]; exact put1_out (by rw [hl]; exact h3)
    have hl' : (match p x with | some j => put1 ws j | none => ws).length = len := by split <;> simp [put1_len, hl]
    have := puts_same p p' h l _ hl'
    show puts p (match p x with | some j => put1 ws j | none => ws) l = puts p' (match p' x with | some j => put1 ws j | none => ws) l
    rw [this, e]

def ir_fretworkref03_Part : IR :=
(.seq
 (.reg (⟨(some 6), .mv (.c (.nils)), none⟩ ::
   []))
 (.seq
  (.reg (⟨(some 10), .mv (.t 1), none⟩ ::
    ⟨(some 11), .mm true [(.t 10), (.c (.int .i64 0))], none⟩ ::
    ⟨(some 1), .mv (.t 11), none⟩ ::
    []))
  (.seq
   (.seq
    (.reg (⟨(some 12), .mv (.t 2), none⟩ ::
      ⟨(some 13), .mv (.t 1), none⟩ ::
      ⟨(some 14), .bin .leq (.t 12) (.t 13), none⟩ ::
      []))
    (.cond (.t 14)
     (.seq
      (.reg (⟨(some 6), .mv (.c (.nils)), none⟩ ::
        []))
      .ret)
     .skip))
   (.seq
    (.reg (⟨(some 15), .mv (.t 2), none⟩ ::
      ⟨(some 16), .mv (.t 1), none⟩ ::
      ⟨(some 17), .bin .sub (.t 15) (.t 16), none⟩ ::
      ⟨(some 18), .call (.c (.fn 14 [])) [(.t 17)], none⟩ ::
      ⟨(some 7), .mv (.t 18), none⟩ ::
      []))
    (.seq
     (.reg (⟨(some 19), .mv (.t 0), none⟩ ::
       ⟨(some 20), .call (.c (.fn 25 [])) [(.t 19)], none⟩ ::
       ⟨(some 8), .mv (.t 20), none⟩ ::
       []))
     (.seq
      (.seq
       (.reg (⟨(some 9), .mv (.c (.int .i64 0)), none⟩ ::
         []))
       (.block 0
        (.loop
         (.seq
          (.seq
           (.reg (⟨(some 21), .mv (.t 9), none⟩ ::
             ⟨(some 22), .mv (.t 8), none⟩ ::
             ⟨(some 23), .ln (.t 22), none⟩ ::
             ⟨(some 24), .bin .lss (.t 21) (.t 23), none⟩ ::
             []))
           (.cond (.t 24)
            .skip
            (.exit 0)))
          (.seq
           (.block 1
            (.seq
             (.reg (⟨(some 27), .mv (.t 8), none⟩ ::
               ⟨(some 28), .mv (.t 9), none⟩ ::
               ⟨(some 29), .ia 1 (.t 27) (.t 28), none⟩ ::
               ⟨(some 30), .ld 1 false (.t 29), none⟩ ::
               ⟨(some 31), .mv (.t 1), none⟩ ::
               ⟨(some 32), .bin .geq (.t 30) (.t 31), none⟩ ::
               ⟨(some 33), .mv (.t 32), none⟩ ::
               ⟨(some 34), .mv (.t 8), some (33, true)⟩ ::
               ⟨(some 35), .mv (.t 9), some (33, true)⟩ ::
               ⟨(some 36), .ia 1 (.t 34) (.t 35), some (33, true)⟩ ::
               ⟨(some 37), .ld 1 false (.t 36), some (33, true)⟩ ::
               ⟨(some 38), .mv (.t 2), some (33, true)⟩ ::
               ⟨(some 39), .bin .lss (.t 37) (.t 38), some (33, true)⟩ ::
               ⟨(some 40), .pick (.t 33) (.t 39) (.c (.bool false)), none⟩ ::
               ⟨(some 41), .mv (.t 40), none⟩ ::
               ⟨(some 42), .mv (.t 8), some (41, true)⟩ ::
               ⟨(some 43), .mv (.t 9), some (41, true)⟩ ::
               ⟨(some 44), .ia 1 (.t 42) (.t 43), some (41, true)⟩ ::
               ⟨(some 45), .ld 1 false (.t 44), some (41, true)⟩ ::
               ⟨(some 46), .mv (.t 1), some (41, true)⟩ ::
               ⟨(some 47), .bin .sub (.t 45) (.t 46), some (41, true)⟩ ::
               ⟨(some 48), .bin .lss (.t 47) (.c (.int .i64 4096)), some (41, true)⟩ ::
               ⟨(some 49), .pick (.t 41) (.t 48) (.c (.bool false)), none⟩ ::
               []))
             (.cond (.t 49)
              (.reg (⟨(some 50), .mv (.t 7), none⟩ ::
                ⟨(some 51), .mv (.t 8), none⟩ ::
                ⟨(some 52), .mv (.t 9), none⟩ ::
                ⟨(some 53), .ia 1 (.t 51) (.t 52), none⟩ ::
                ⟨(some 54), .ld 1 false (.t 53), none⟩ ::
                ⟨(some 55), .mv (.t 1), none⟩ ::
                ⟨(some 56), .bin .sub (.t 54) (.t 55), none⟩ ::
                ⟨(some 57), .call (.c (.fn 22 [])) [(.t 50), (.t 56)], none⟩ ::
                ⟨(some 7), .mv (.t 57), none⟩ ::
                []))
              .skip)))
           (.reg (⟨(some 25), .mv (.t 9), none⟩ ::
             ⟨(some 26), .bin .add (.t 25) (.c (.int .i64 1)), none⟩ ::
             ⟨(some 9), .mv (.t 26), none⟩ ::
             [])))))))
      (.seq
       (.reg (⟨(some 58), .mv (.t 7), none⟩ ::
         ⟨(some 6), .mv (.t 58), none⟩ ::
         []))
       .ret)))))))
theorem cd_fretworkref03_Part : Code1 Try.prog 42 59 ir_fretworkref03_Part [.t 6] := ⟨Try.call42, _, _, Try.func42, rfl, by kernel_rfl, by kernel_rfl, by kernel_rfl, by kernel_rfl⟩

theorem fs_rPart (ws : List Nat) (hw : Wd ws) (hl : ws.length ≤ 1000000) (a b : Int) (ha0 : -9223372036854775808 ≤ a) (ha1 : a ≤ 9223372036854775807) (hb0 : -9223372036854775808 ≤ b) (hb1 : b ≤ 9223372036854775807) :
    FS Try.prog 42 [U ws, .int .i64 a, .int .i64 b] (if b ≤ max a 0 then .nils else U (partN ws (max a 0) b)) := by
  refine fs_of_cvc mixed cd_fretworkref03_Part (by simp) ?_
  repeat' (conv => whnf); first
    | ((refine fun x hx => ?_); (obtain rfl := U_at hx; clear hx))
    | ((refine fun x hx => ?_); (obtain rfl := zs_at hx; clear hx))
    | ((refine fun x hx => ?_); (obtain rfl := ints_at hx; clear hx))
    | ((refine And.intro rfl (And.intro (by simp only [U_len, tab_len, List.length_set]; omega) ?_)))
    | ((refine ar_tdiv (by omega) (by omega) (by omega) ?_))
    | (refine Br.tt ?_)
    | (refine Br.ff ?_)
    | (refine Br.dec (fun h => ?_) (fun h => ?_)) <;> try (exfalso; omega)
    | (refine Br.neg ?_)
    | (refine Br.mk (fun h => ?_) (fun h => ?_))
    | (refine And.intro rfl ?_)
    | (refine And.intro (by omega) ?_)
    | (refine ⟨_, Or.inl ⟨⟨by omega, by omega⟩, rfl⟩, ?_⟩)
    | (refine And.intro (by simp only [List.length_map, List.length_replicate, List.length_set, List.length_append, List.length_take, List.length_drop, List.length_cons, List.length_nil, U_len, tab_len, ints_len, zs_len]; first | done | omega) ?_)
    | (refine And.intro (Nat.le_refl _) ?_)
    | fail
  · show leV 0 .nils (if b ≤ max a 0 then .nils else U (partN ws (max a 0) b))
    rw [if_pos h]; rfl
  rw [if_neg h]
  generalize hc : max a 0 = c at h ⊢
  have hc0 : 0 ≤ c := by omega
  have hcb : c < b := by omega
  generalize hn : wordsI (b - c) = n
  have hwl : n ≤ 64 := by rw [← hn]; unfold wordsI; omega
  have hbl := bits_len ws hw
  have hil := ints_len (bits ws)
  repeat' (conv => whnf); first
    | ((refine Or.inl ⟨rfl, _, fs_rNew (b - c) (by omega) (by omega), ?_⟩))
    | ((refine Or.inl ⟨rfl, _, fs_rList ws hw hl, ?_⟩))
    | ((refine fun x hx => ?_); (obtain rfl := U_at hx; clear hx))
    | ((refine fun x hx => ?_); (obtain rfl := zs_at hx; clear hx))
    | ((refine fun x hx => ?_); (obtain rfl := ints_at hx; clear hx))
    | ((refine And.intro rfl (And.intro (by simp only [U_len, tab_len, List.length_set]; omega) ?_)))
    | ((refine ar_tdiv (by omega) (by omega) (by omega) ?_))
    | (refine Br.tt ?_)
    | (refine Br.ff ?_)
    | (refine Br.dec (fun h => ?_) (fun h => ?_)) <;> try (exfalso; omega)
    | (refine Br.neg ?_)
    | (refine Br.mk (fun h => ?_) (fun h => ?_))
    | (refine And.intro rfl ?_)
    | (refine And.intro (by omega) ?_)
    | (refine ⟨_, Or.inl ⟨⟨by omega, by omega⟩, rfl⟩, ?_⟩)
    | (refine And.intro (by simp only [List.length_map, List.length_replicate, List.length_set, List.length_append, List.length_take, List.length_drop, List.length_cons, List.length_nil, U_len, tab_len, ints_len, zs_len]; first | done | omega) ?_)
    | (refine And.intro (Nat.le_refl _) ?_)
    | fail
  generalize hp : (fun i => if c ≤ i ∧ i < b ∧ i - c < 4096 then some (i - c) else none) = p
  have hpart : partN ws c b = puts p (zeroW (b - c)) ((bits ws).map fun (i : Nat) => (i : Int)) := by
    rw [partN]
    refine puts_same (len := n) _ _ (fun i => ?_) _ _ (by simp [hn])
    rw [← hp]
    by_cases h1 : c ≤ i ∧ i < b
    · by_cases h2 : i - c < 4096
      · left; simp only; rw [if_pos h1, if_pos ⟨h1.1, h1.2, h2⟩]
      · right; exact ⟨i - c, if_pos h1, if_neg (by omega), by omega⟩
    · left; simp only; rw [if_neg h1, if_neg (by omega)]
  rw [hpart]
  generalize hL : ((bits ws).map fun (i : Nat) => (i : Int)) = L
  have hLl : L.length = (bits ws).length := by rw [← hL]; simp
  have hLg : ∀ k, L.getD k 0 = (((bits ws).getD k 0 : Nat) : Int) := fun k => by
    rw [← hL, List.getD_eq_getElem?_getD, List.getElem?_map, List.getD_eq_getElem?_getD]
    cases (bits ws)[k]? <;> rfl
  refine ⟨Nat, fun k => k ≤ L.length, fun k => [(1, .int .i64 c), (2, .int .i64 b), (7, U (puts p (zeroW (b - c)) (L.take k))), (8, I (bits ws)), (9, .int .i64 (k : Int))], fun k => [], fun _ => none, fun k => L.length - k, ⟨0, by omega, ⟨rfl, rfl, rfl, rfl, rfl, trivial⟩, trivial, rfl⟩, fun k hk => ?_⟩
  have hk' : k ≤ L.length := hk
  have hwd : Wd (puts p (zeroW (b - c)) (L.take k)) := puts_wd _ _ _ (wd_zero _)
  have hlen : (puts p (zeroW (b - c)) (L.take k)).length = n := by rw [puts_len, zeroW_len, hn]
  have next : k < L.length → puts p (zeroW (b - c)) (L.take (k + 1)) = match p (L.getD k 0) with | some j => put1 (puts p (zeroW (b - c)) (L.take k)) j | none => puts p (zeroW (b - c)) (L.take k) := fun h => puts_take p _ (getD_get 0 h)
  have hbd : k < (bits ws).length → (bits ws).getD ((k : Int).toNat) 0 < 64 * ws.length := fun h => ((bits_mem hw).1 (List.mem_of_getElem? (getD_get 0 (show ((k : Int).toNat) < (bits ws).length from h)))).1
  rw [hLg] at next
  by_cases hkL : k < (bits ws).length
  · have hbd := hbd hkL
    repeat' (conv => whnf); first
      | ((refine Or.inl ⟨rfl, _, fs_rPut _ hwd (by omega) _ (by omega), ?_⟩))
      | ((refine fun x hx => ?_); (obtain rfl := U_at hx; clear hx))
      | ((refine fun x hx => ?_); (obtain rfl := zs_at hx; clear hx))
      | ((refine fun x hx => ?_); (obtain rfl := ints_at hx; clear hx))
      | ((refine And.intro rfl (And.intro (by simp only [U_len, tab_len, List.length_set]; omega) ?_)))
      | ((refine ar_tdiv (by omega) (by omega) (by omega) ?_))
      | (refine Br.tt ?_)
      | (refine Br.ff ?_)
      | (refine Br.dec (fun h => ?_) (fun h => ?_)) <;> try (exfalso; omega)
      | (refine Br.neg ?_)
      | (refine Br.mk (fun h => ?_) (fun h => ?_))
      | (refine And.intro rfl ?_)
      | (refine And.intro (by omega) ?_)
      | (refine ⟨_, Or.inl ⟨⟨by omega, by omega⟩, rfl⟩, ?_⟩)
      | (refine And.intro (by simp only [List.length_map, List.length_replicate, List.length_set, List.length_append, List.length_take, List.length_drop, List.length_cons, List.length_nil, U_len, tab_len, ints_len, zs_len]; first | done | omega) ?_)
      | (refine And.intro (Nat.le_refl _) ?_)
      | fail
    · refine ⟨k + 1, (show k + 1 ≤ L.length by omega), (show L.length - (k + 1) < L.length - k by omega), ⟨rfl, rfl, ?_, rfl, rfl, trivial⟩, trivial, rfl⟩
      show U (put1 (puts p (zeroW (b - c)) (L.take k)) ((((bits ws).getD k 0 : Nat) : Int) - c)) = U (puts p (zeroW (b - c)) (L.take (k + 1)))
      rw [next (by omega), show p (((bits ws).getD k 0 : Nat) : Int) = some ((((bits ws).getD k 0 : Nat) : Int) - c) by rw [← hp]; exact if_pos ⟨by assumption, by assumption, by assumption⟩]
    all_goals
      refine ⟨k + 1, (show k + 1 ≤ L.length by omega), (show L.length - (k + 1) < L.length - k by omega), ⟨rfl, rfl, ?_, rfl, rfl, trivial⟩, trivial, rfl⟩
      show U (puts p (zeroW (b - c)) (L.take k)) = U (puts p (zeroW (b - c)) (L.take (k + 1)))
      rw [next (by omega), show p (((bits ws).getD k 0 : Nat) : Int) = none by rw [← hp]; exact if_neg (fun hh => h (by first | exact hh.1 | exact hh.2.1 | exact hh.2.2))]
  · repeat' (conv => whnf); first
      | ((refine fun x hx => ?_); (obtain rfl := U_at hx; clear hx))
      | ((refine fun x hx => ?_); (obtain rfl := zs_at hx; clear hx))
      | ((refine fun x hx => ?_); (obtain rfl := ints_at hx; clear hx))
      | ((refine And.intro rfl (And.intro (by simp only [U_len, tab_len, List.length_set]; omega) ?_)))
      | ((refine ar_tdiv (by omega) (by omega) (by omega) ?_))
      | (refine Br.tt ?_)
      | (refine Br.ff ?_)
      | (refine Br.dec (fun h => ?_) (fun h => ?_)) <;> try (exfalso; omega)
      | (refine Br.neg ?_)
      | (refine Br.mk (fun h => ?_) (fun h => ?_))
      | (refine And.intro rfl ?_)
      | (refine And.intro (by omega) ?_)
      | (refine ⟨_, Or.inl ⟨⟨by omega, by omega⟩, rfl⟩, ?_⟩)
      | (refine And.intro (by simp only [List.length_map, List.length_replicate, List.length_set, List.length_append, List.length_take, List.length_drop, List.length_cons, List.length_nil, U_len, tab_len, ints_len, zs_len]; first | done | omega) ?_)
      | (refine And.intro (Nat.le_refl _) ?_)
      | fail
    have hkl : k = L.length := by omega
    show U (puts p (zeroW (b - c)) (L.take k)) = _
    rw [hkl, List.take_length]; rfl

end Go.Proofs.Ytefciekodhpefaa
