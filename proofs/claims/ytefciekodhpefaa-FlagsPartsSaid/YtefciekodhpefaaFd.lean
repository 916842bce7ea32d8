/- Sets of places: ranks; what two sets come to. -/
import Derived.Test.YtefciekodhpefaaFp
namespace Go.Proofs.Ytefciekodhpefaa
open Go.RowKit
attribute [local irreducible] FS FO IT HS

theorem getD_lt {ws : List Nat} (h : Wd ws) (k : Nat) : ws.getD k 0 < 18446744073709551616 := by
  rw [List.getD_eq_getElem?_getD]
  cases hv : ws[k]? with
  | none => simp
  | some v => exact h v (List.mem_of_getElem? hv)

theorem uw_at {ws : List Nat} {j : Nat} (h : j < ws.length) : (uw ws)[j]? = some [.int .u64 ((ws.getD j 0 : Nat) : Int)] := by
  simp [uw, List.getElem?_map, List.getElem?_eq_getElem h, List.getD_eq_getElem?_getD]
def ir_flags_both : IR :=
(.seq
 (.reg (⟨(some 8), .mv (.c (.nils)), none⟩ ::
   []))
 (.seq
  (.reg (⟨(some 13), .mv (.t 0), none⟩ ::
    ⟨(some 14), .mk 1 8 [.int .u64 0] (.t 13) (.t 13), none⟩ ::
    ⟨(some 9), .mv (.t 14), none⟩ ::
    []))
  (.seq
   (.seq
    (.reg (⟨(some 15), .mv (.t 9), none⟩ ::
      ⟨(some 16), .ln (.t 15), none⟩ ::
      ⟨(some 17), .mv (.c (.int .i64 0)), none⟩ ::
      []))
    (.block 0
     (.loop
      (.seq
       (.reg (⟨(some 18), .bin .lss (.t 17) (.t 16), none⟩ ::
         []))
       (.seq
        (.cond (.t 18)
         .skip
         (.exit 0))
        (.seq
         (.block 1
          (.seq
           (.reg (⟨(some 19), .mv (.t 17), none⟩ ::
             ⟨(some 10), .mv (.t 19), none⟩ ::
             []))
           (.seq
            (.reg (⟨(some 11), .mv (.c (.int .u64 0)), none⟩ ::
              ⟨(some 12), .mv (.c (.int .u64 0)), none⟩ ::
              []))
            (.seq
             (.seq
              (.reg (⟨(some 20), .mv (.t 10), none⟩ ::
                ⟨(some 21), .mv (.t 1), none⟩ ::
                ⟨(some 22), .ln (.t 21), none⟩ ::
                ⟨(some 23), .bin .lss (.t 20) (.t 22), none⟩ ::
                []))
              (.cond (.t 23)
               (.reg (⟨(some 24), .mv (.t 1), none⟩ ::
                 ⟨(some 25), .mv (.t 10), none⟩ ::
                 ⟨(some 26), .ia 1 (.t 24) (.t 25), none⟩ ::
                 ⟨(some 27), .ld 1 false (.t 26), none⟩ ::
                 ⟨(some 11), .mv (.t 27), none⟩ ::
                 []))
               .skip))
             (.seq
              (.seq
               (.reg (⟨(some 28), .mv (.t 10), none⟩ ::
                 ⟨(some 29), .mv (.t 2), none⟩ ::
                 ⟨(some 30), .ln (.t 29), none⟩ ::
                 ⟨(some 31), .bin .lss (.t 28) (.t 30), none⟩ ::
                 []))
               (.cond (.t 31)
                (.reg (⟨(some 32), .mv (.t 2), none⟩ ::
                  ⟨(some 33), .mv (.t 10), none⟩ ::
                  ⟨(some 34), .ia 1 (.t 32) (.t 33), none⟩ ::
                  ⟨(some 35), .ld 1 false (.t 34), none⟩ ::
                  ⟨(some 12), .mv (.t 35), none⟩ ::
                  []))
                .skip))
              (.reg (⟨(some 36), .mv (.t 9), none⟩ ::
                ⟨(some 37), .mv (.t 10), none⟩ ::
                ⟨(some 38), .mv (.t 3), none⟩ ::
                ⟨(some 39), .mv (.t 11), none⟩ ::
                ⟨(some 40), .mv (.t 12), none⟩ ::
                ⟨(some 41), .call (.t 38) [(.t 39), (.t 40)], none⟩ ::
                ⟨(some 42), .ia 1 (.t 36) (.t 37), none⟩ ::
                ⟨none, .st 1 (.t 42) (.t 41), none⟩ ::
                [])))))))
         (.reg (⟨(some 43), .bin .add (.t 17) (.c (.int .i64 1)), none⟩ ::
           ⟨(some 17), .mv (.t 43), none⟩ ::
           []))))))))
   (.seq
    (.reg (⟨(some 44), .mv (.t 9), none⟩ ::
      ⟨(some 8), .mv (.t 44), none⟩ ::
      []))
    .ret))))
theorem cd_flags_both : Code1 Try.prog 56 45 ir_flags_both [.t 8] := ⟨Try.call56, _, _, Try.func56, rfl, by kernel_rfl, by kernel_rfl, by kernel_rfl, by kernel_rfl⟩

theorem fo_both (n : Nat) (a b : List Nat) (ha : Wd a) (hb : Wd b) (hla : a.length ≤ 1000000) (hlb : b.length ≤ 1000000) (hn : n ≤ 1000000) (g : FuncId) (f : Nat → Nat → Nat)
    (hf : ∀ x y : Nat, x < 18446744073709551616 → y < 18446744073709551616 → FS Try.prog g [.int .u64 (x : Int), .int .u64 (y : Int)] (.int .u64 ((f x y : Nat) : Int))) :
    FO Try.prog 56 [.int .i64 (n : Int), U a, U b, .fn g []] (.osl 0 1 0 n) [.arr 1 (uw (tab n fun i => f (a.getD i 0) (b.getD i 0)))] := by
  refine fo_of_cvc mixed cd_flags_both (by simp) ?_
  refine ⟨by omega, by omega, by omega, by omega, rfl, ?_⟩
  refine ⟨Nat, fun k => k ≤ n, fun k => [(1, U a), (2, U b), (3, .fn g []), (9, .osl 0 1 0 n), (16, .int .i64 (n : Int)), (17, .int .i64 (k : Int))], fun k => [.arr 1 (uw (tab n fun i => if i < k then f (a.getD i 0) (b.getD i 0) else 0))], fun _ => none, fun k => n - k, ⟨0, by omega, ⟨rfl, rfl, rfl, rfl, rfl, rfl, trivial⟩, ⟨?_, trivial⟩, rfl⟩, fun k hk => ?_⟩
  · show Blk.arr 1 (List.replicate (n : Int).toNat [.int .u64 0]) = _
    rw [← tab_zero]; simp [uw]
  have hk' : k ≤ n := hk
  have hf' : ∀ X Y : Int, X = ((a.getD k 0 : Nat) : Int) → Y = ((b.getD k 0 : Nat) : Int) → FS Try.prog g [.int .u64 X, .int .u64 Y] (.int .u64 ((f (a.getD k 0) (b.getD k 0) : Nat) : Int)) := by
    rintro X Y rfl rfl
    exact hf _ _ (getD_lt ha k) (getD_lt hb k)
  repeat' (conv => whnf); first
    | ((refine fun x hx => ?_); (obtain ⟨v, hv, rfl⟩ := U_get hx))
    | ((refine And.intro rfl (And.intro (by simp only [U_len, tab_len, List.length_set]; omega) ?_)))
    | (refine Br.tt ?_)
    | (refine Br.ff ?_)
    | (refine Br.dec (fun h => ?_) (fun h => ?_)) <;> try (exfalso; omega)
    | (refine Br.neg ?_)
    | (refine Br.mk (fun h => ?_) (fun h => ?_))
    | (refine And.intro rfl ?_)
    | (refine And.intro (by omega) ?_)
    | (refine ⟨_, Or.inl ⟨⟨by omega, by omega⟩, rfl⟩, ?_⟩)
    | (refine And.intro (by simp only [List.length_map, List.length_replicate, List.length_set, List.length_append, List.length_take, List.length_drop, List.length_cons, List.length_nil, U_len, tab_len]; first | done | omega) ?_)
    | (refine And.intro (Nat.le_refl _) ?_)
    | fail
  all_goals first
    | (refine Or.inl ⟨rfl, _, hf' _ _ ?_ ?_, ?_⟩
       · first | (simp only [Int.toNat_natCast] at *; simp [List.getD_eq_getElem?_getD, *]; done) | (rw [List.getD_eq_getElem?_getD, List.getElem?_eq_none (by simp only [U_len] at *; omega)]; rfl)
       · first | (simp only [Int.toNat_natCast] at *; simp [List.getD_eq_getElem?_getD, *]; done) | (rw [List.getD_eq_getElem?_getD, List.getElem?_eq_none (by simp only [U_len] at *; omega)]; rfl)
       repeat' (conv => whnf); first
         | ((refine fun x hx => ?_); (obtain ⟨v, hv, rfl⟩ := U_get hx))
         | ((refine And.intro rfl (And.intro (by simp only [U_len, tab_len, List.length_set]; omega) ?_)))
         | (refine Br.tt ?_)
         | (refine Br.ff ?_)
         | (refine Br.dec (fun h => ?_) (fun h => ?_)) <;> try (exfalso; omega)
         | (refine Br.neg ?_)
         | (refine Br.mk (fun h => ?_) (fun h => ?_))
         | (refine And.intro rfl ?_)
         | (refine And.intro (by omega) ?_)
         | (refine ⟨_, Or.inl ⟨⟨by omega, by omega⟩, rfl⟩, ?_⟩)
         | (refine And.intro (by simp only [List.length_map, List.length_replicate, List.length_set, List.length_append, List.length_take, List.length_drop, List.length_cons, List.length_nil, U_len, tab_len]; first | done | omega) ?_)
         | (refine And.intro (Nat.le_refl _) ?_)
         | fail)
    | skip
  rotate_right
  · have hkn : n ≤ k := by omega
    refine Or.inl ⟨[0], rfl, ?_, by simp, rfl, rfl⟩
    show [some (Blk.arr 1 (uw (tab n _)))] = _
    rw [tab_full _ _ hkn]; rfl
  all_goals (conv => whnf)
  all_goals (refine ⟨_, uw_at (by simp only [tab_len]; omega), ?_⟩)
  all_goals repeat' (conv => whnf); first
    | ((refine fun x hx => ?_); (obtain ⟨v, hv, rfl⟩ := U_get hx))
    | ((refine And.intro rfl (And.intro (by simp only [U_len, tab_len, List.length_set]; omega) ?_)))
    | (refine Br.tt ?_)
    | (refine Br.ff ?_)
    | (refine Br.dec (fun h => ?_) (fun h => ?_)) <;> try (exfalso; omega)
    | (refine Br.neg ?_)
    | (refine Br.mk (fun h => ?_) (fun h => ?_))
    | (refine And.intro rfl ?_)
    | (refine And.intro (by omega) ?_)
    | (refine ⟨_, Or.inl ⟨⟨by omega, by omega⟩, rfl⟩, ?_⟩)
    | (refine And.intro (by simp only [List.length_map, List.length_replicate, List.length_set, List.length_append, List.length_take, List.length_drop, List.length_cons, List.length_nil, U_len, tab_len]; first | done | omega) ?_)
    | (refine And.intro (Nat.le_refl _) ?_)
    | fail
  all_goals refine ⟨k + 1, (show k + 1 ≤ n by omega), (show n - (k + 1) < n - k by omega), ⟨rfl, rfl, rfl, rfl, rfl, rfl, trivial⟩, ⟨?_, trivial⟩, rfl⟩
  all_goals
    show Blk.arr 1 ((uw _).set (0 + k) [.int .u64 ((f (a.getD k 0) (b.getD k 0) : Nat) : Int)]) = _
    rw [Nat.zero_add, uw_set, tab_set (fun i => f (a.getD i 0) (b.getD i 0)) fun _ => 0]

end Go.Proofs.Ytefciekodhpefaa
