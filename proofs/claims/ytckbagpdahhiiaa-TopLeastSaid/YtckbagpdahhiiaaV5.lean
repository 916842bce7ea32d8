/- Two sparse vectors: the document's functions. -/
import Derived.Test.YtckbagpdahhiiaaV4
namespace Go.Proofs.Ytckbagpdahhiiaa
section
open Go.RowKit
attribute [local irreducible] FS FO IT HS

/-- What two come to at a place; whether it is over. -/
def uV (r : Int) (x y : Option Int) : Option Int := match x, y with
  | none, none => none
  | some x, none => some x
  | none, some y => some y
  | some x, some y => some (nar (rAdd r x y))
def uE (r : Int) (x y : Option Int) : Bool := match x, y with
  | some x, some y => !fits (rAdd r x y)
  | _, _ => false
def ruL (r : Int) (a b : List (Int × Int)) (k : Nat) : List (Int × Int) := (List.range k).filterMap fun (i : Nat) => (uV r (gt a (i : Int)) (gt b (i : Int))).map fun v => ((i : Int), v)
def ruR (r n1 : Int) (a : List (Int × Int)) (n2 : Int) (b : List (Int × Int)) : Int × List (Int × Int) × Int :=
  if isR r = true then if n1 = n2 then if (List.range n1.toNat).any (fun (i : Nat) => uE r (gt a (i : Int)) (gt b (i : Int))) = true then (0, [], 12) else (n1, ruL r a b n1.toNat, 0) else (0, [], 4) else (0, [], 8)
theorem ruL_succ (r : Int) (a b : List (Int × Int)) (k : Nat) : ruL r a b (k + 1) = ruL r a b k ++ ((uV r (gt a (k : Int)) (gt b (k : Int))).map fun v => ((k : Int), v)).toList := by
  unfold ruL
  rw [List.range_succ, List.filterMap_append]
  congr 1
theorem ruL_le (r : Int) (a b : List (Int × Int)) (k : Nat) : (ruL r a b k).length ≤ k := by
  have := List.length_filterMap_le (fun (i : Nat) => (uV r (gt a (i : Int)) (gt b (i : Int))).map fun v => ((i : Int), v)) (List.range k)
  simpa [ruL] using this
theorem any_lt {p : Nat → Bool} {n : Nat} : (List.range n).any p = false ↔ ∀ i, i < n → p i = false := by
  rw [List.any_eq_false]
  constructor
  · intro h i hi; simpa using h i (List.mem_range.2 hi)
  · intro h i hi; simpa using h i (List.mem_range.1 hi)
theorem any_lt' {p : Nat → Bool} {n i : Nat} (hi : i < n) (h : p i = true) : (List.range n).any p = true := List.any_eq_true.2 ⟨i, List.mem_range.2 hi, h⟩

def ir_fretworkref11_Union : IR :=
(.seq
 (.reg (⟨(some 4), .bx (.t 1), none⟩ ::
   ⟨(some 5), .bx (.t 2), none⟩ ::
   ⟨(some 6), .al [.int .i64 0, .nils], none⟩ ::
   ⟨(some 7), .mv (.c (.int .i64 0)), none⟩ ::
   []))
 (.seq
  (.draw (⟨(some 17), .ld 2 true (.t 4), none⟩ ::
    ⟨(some 18), .call (.c (.fn 62 [])) [(.t 17)], none⟩ ::
    ⟨(some 19), .ld 2 true (.t 5), none⟩ ::
    [])
   (⟨(some 20), .call (.c (.fn 62 [])) [(.t 19)], none⟩ ::
    ⟨none, .st 2 (.t 4) (.t 18), none⟩ ::
    ⟨none, .st 2 (.t 5) (.t 20), none⟩ ::
    []))
  (.seq
   (.seq
    (.reg (⟨(some 21), .mv (.t 0), none⟩ ::
      ⟨(some 22), .call (.c (.fn 30 [])) [(.t 21)], none⟩ ::
      ⟨(some 23), .un .not (.t 22), none⟩ ::
      []))
    (.cond (.t 23)
     (.seq
      (.reg (⟨(some 24), .bld [.int .i64 0, .nils] [], none⟩ ::
        ⟨none, .st 2 (.t 6) (.t 24), none⟩ ::
        ⟨(some 7), .mv (.c (.int .i64 8)), none⟩ ::
        []))
      .ret)
     .skip))
   (.seq
    (.seq
     (.reg (⟨(some 25), .fa 0 (.t 4), none⟩ ::
       ⟨(some 26), .ld 1 false (.t 25), none⟩ ::
       ⟨(some 27), .fa 0 (.t 5), none⟩ ::
       ⟨(some 28), .ld 1 false (.t 27), none⟩ ::
       ⟨(some 29), .bin .neq (.t 26) (.t 28), none⟩ ::
       []))
     (.cond (.t 29)
      (.seq
       (.reg (⟨(some 30), .bld [.int .i64 0, .nils] [], none⟩ ::
         ⟨none, .st 2 (.t 6) (.t 30), none⟩ ::
         ⟨(some 7), .mv (.c (.int .i64 4)), none⟩ ::
         []))
       .ret)
      .skip))
    (.seq
     (.reg (⟨(some 31), .fa 0 (.t 4), none⟩ ::
       ⟨(some 32), .ld 1 false (.t 31), none⟩ ::
       ⟨(some 33), .bld [.int .i64 0, .nils] [(0, 1, (.t 32))], none⟩ ::
       ⟨(some 8), .al [.int .i64 0, .nils], none⟩ ::
       ⟨none, .st 2 (.t 8) (.t 33), none⟩ ::
       []))
     (.seq
      (.seq
       (.reg (⟨(some 9), .mv (.c (.int .i64 0)), none⟩ ::
         []))
       (.block 0
        (.loop
         (.seq
          (.seq
           (.reg (⟨(some 34), .mv (.t 9), none⟩ ::
             ⟨(some 35), .fa 0 (.t 4), none⟩ ::
             ⟨(some 36), .ld 1 false (.t 35), none⟩ ::
             ⟨(some 37), .bin .lss (.t 34) (.t 36), none⟩ ::
             []))
           (.cond (.t 37)
            .skip
            (.exit 0)))
          (.seq
           (.block 1
            (.seq
             (.reg (⟨(some 41), .ld 2 true (.t 4), none⟩ ::
               ⟨(some 42), .mv (.t 9), none⟩ ::
               ⟨(some 43), .call (.c (.fn 63 [])) [(.t 41), (.t 42)], none⟩ ::
               ⟨(some 40), .mv (.t 43), none⟩ ::
               ⟨(some 44), .ex 0 (.t 40), none⟩ ::
               ⟨(some 45), .ex 1 (.t 40), none⟩ ::
               ⟨(some 10), .mv (.t 44), none⟩ ::
               ⟨(some 11), .mv (.t 45), none⟩ ::
               []))
             (.seq
              (.reg (⟨(some 47), .ld 2 true (.t 5), none⟩ ::
                ⟨(some 48), .mv (.t 9), none⟩ ::
                ⟨(some 49), .call (.c (.fn 63 [])) [(.t 47), (.t 48)], none⟩ ::
                ⟨(some 46), .mv (.t 49), none⟩ ::
                ⟨(some 50), .ex 0 (.t 46), none⟩ ::
                ⟨(some 51), .ex 1 (.t 46), none⟩ ::
                ⟨(some 12), .mv (.t 50), none⟩ ::
                ⟨(some 13), .mv (.t 51), none⟩ ::
                []))
              (.seq
               (.seq
                (.reg (⟨(some 52), .mv (.t 11), none⟩ ::
                  ⟨(some 53), .un .not (.t 52), none⟩ ::
                  ⟨(some 54), .mv (.t 53), none⟩ ::
                  ⟨(some 55), .mv (.t 13), some (54, true)⟩ ::
                  ⟨(some 56), .un .not (.t 55), some (54, true)⟩ ::
                  ⟨(some 57), .pick (.t 54) (.t 56) (.c (.bool false)), none⟩ ::
                  []))
                (.cond (.t 57)
                 (.exit 1)
                 .skip))
               (.seq
                (.reg (⟨(some 58), .mv (.t 10), none⟩ ::
                  ⟨(some 14), .mv (.t 58), none⟩ ::
                  []))
                (.seq
                 (.seq
                  (.reg (⟨(some 59), .mv (.t 11), none⟩ ::
                    ⟨(some 60), .un .not (.t 59), none⟩ ::
                    []))
                  (.cond (.t 60)
                   (.reg (⟨(some 61), .mv (.t 12), none⟩ ::
                     ⟨(some 14), .mv (.t 61), none⟩ ::
                     []))
                   .skip))
                 (.seq
                  (.seq
                   (.reg (⟨(some 62), .mv (.t 11), none⟩ ::
                     ⟨(some 63), .mv (.t 62), none⟩ ::
                     ⟨(some 64), .mv (.t 13), some (63, true)⟩ ::
                     ⟨(some 65), .pick (.t 63) (.t 64) (.c (.bool false)), none⟩ ::
                     []))
                   (.cond (.t 65)
                    (.seq
                     (.reg (⟨(some 67), .mv (.t 0), none⟩ ::
                       ⟨(some 68), .mv (.t 10), none⟩ ::
                       ⟨(some 69), .call (.c (.fn 49 [])) [(.t 68)], none⟩ ::
                       ⟨(some 70), .mv (.t 12), none⟩ ::
                       ⟨(some 71), .call (.c (.fn 49 [])) [(.t 70)], none⟩ ::
                       ⟨(some 72), .call (.c (.fn 48 [])) [(.t 67), (.t 69), (.t 71)], none⟩ ::
                       ⟨(some 73), .call (.c (.fn 47 [])) [(.t 72)], none⟩ ::
                       ⟨(some 66), .mv (.t 73), none⟩ ::
                       ⟨(some 74), .ex 0 (.t 66), none⟩ ::
                       ⟨(some 75), .ex 1 (.t 66), none⟩ ::
                       ⟨(some 15), .mv (.t 74), none⟩ ::
                       ⟨(some 16), .mv (.t 75), none⟩ ::
                       []))
                     (.seq
                      (.seq
                       (.reg (⟨(some 76), .mv (.t 16), none⟩ ::
                         ⟨(some 77), .un .not (.t 76), none⟩ ::
                         []))
                       (.cond (.t 77)
                        (.seq
                         (.reg (⟨(some 78), .bld [.int .i64 0, .nils] [], none⟩ ::
                           ⟨none, .st 2 (.t 6) (.t 78), none⟩ ::
                           ⟨(some 7), .mv (.c (.int .i64 12)), none⟩ ::
                           []))
                         .ret)
                        .skip))
                      (.reg (⟨(some 79), .mv (.t 15), none⟩ ::
                        ⟨(some 14), .mv (.t 79), none⟩ ::
                        []))))
                    .skip))
                  (.reg (⟨(some 80), .fa 1 (.t 8), none⟩ ::
                    ⟨(some 81), .ld 1 false (.t 80), none⟩ ::
                    ⟨(some 82), .mv (.t 9), none⟩ ::
                    ⟨(some 83), .mv (.t 14), none⟩ ::
                    ⟨(some 84), .bld [.int .i64 0, .int .i64 0] [(0, 1, (.t 82)), (1, 1, (.t 83))], none⟩ ::
                    ⟨(some 85), .bsl 1 2 [.int .i64 0, .int .i64 0] [(0, (.t 84))], none⟩ ::
                    ⟨(some 86), .ap 2 16 (.t 81) (.t 85), none⟩ ::
                    ⟨(some 87), .fa 1 (.t 8), none⟩ ::
                    ⟨none, .st 1 (.t 87) (.t 86), none⟩ ::
                    [])))))))))
           (.reg (⟨(some 38), .mv (.t 9), none⟩ ::
             ⟨(some 39), .bin .add (.t 38) (.c (.int .i64 1)), none⟩ ::
             ⟨(some 9), .mv (.t 39), none⟩ ::
             [])))))))
      (.seq
       (.reg (⟨(some 88), .ld 2 true (.t 8), none⟩ ::
         ⟨none, .st 2 (.t 6) (.t 88), none⟩ ::
         ⟨(some 7), .mv (.c (.int .i64 0)), none⟩ ::
         []))
       .ret)))))))
theorem cd_fretworkref11_Union : Code1 Try.prog 19 89 ir_fretworkref11_Union [.c 2 true 6, .t 7] := ⟨Try.call19, _, _, Try.func19, rfl, by kernel_rfl, by kernel_rfl, by kernel_rfl, by kernel_rfl⟩

set_option maxHeartbeats 4000000 in
theorem fs_r11Union (r n1 : Int) (l1 : List (Int × Int)) (n2 : Int) (l2 : List (Int × Int)) (hl1 : l1.length ≤ 400000000) (hl2 : l2.length ≤ 400000000) (h1 : Ib l1) (h2 : Ib l2) : FS Try.prog 19 [.int .i64 r, VC n1 l1, VC n2 l2] (VE (ruR r (sn n1 l1) (sl n1 l1) (sn n2 l2) (sl n2 l2))) := by
  refine fs_of_cvc mixed cd_fretworkref11_Union (by simp) ?_
  have c1 := fs_r9Sure n1 l1 (by omega)
  have c2 := fs_r9Sure n2 l2 (by omega)
  have s1 := sl_len n1 l1
  have s2 := sl_len n2 l2
  have b1 : Ib (sl n1 l1) := h1.sl
  have b2 : Ib (sl n2 l2) := h2.sl
  have hn := sn_le n1 l1
  generalize sn n1 l1 = N1 at *
  generalize sn n2 l2 = N2 at *
  generalize sl n1 l1 = a at *
  generalize sl n2 l2 = b at *
  obtain ⟨q, hq⟩ : ∃ q, isR r = q := ⟨_, rfl⟩
  have ci := fs_r2Is r
  rw [hq] at ci
  generalize ht : ruR r N1 a N2 b = t
  unfold ruR at ht
  rw [hq] at ht
  cases q
  · have ht' : t = (0, [], 8) := ht.symm
    subst ht'
    repeat' (conv => whnf); first
      | ((refine Or.inl ⟨by rfl, _, c1, ?_⟩))
      | ((refine Or.inl ⟨by rfl, _, c2, ?_⟩))
      | ((refine Or.inl ⟨by rfl, _, ci, ?_⟩))
      | ((refine Br.beq (by rfl) ?_))
      | ((refine Br.bne (by rfl) ?_))
      | ((refine And.intro (Or.inl (Nat.zero_le _)) ?_))
      | ((refine And.intro (by intro y hy; simp at hy; subst hy; rfl) ?_))
      | (refine Br.tt ?_)
      | (refine Br.ff ?_)
      | (refine Br.dec (fun h => ?_) (fun h => ?_)) <;> try (exfalso; omega)
      | (refine Br.neg ?_)
      | (refine Br.mk (fun h => ?_) (fun h => ?_))
      | (refine And.intro rfl ?_)
      | (refine And.intro (by omega) ?_)
      | (refine ⟨_, Or.inl ⟨⟨by omega, by omega⟩, rfl⟩, ?_⟩)
      | (refine And.intro (by simp only [lens_all]; first | done | omega) ?_)
      | (refine And.intro (Nat.le_refl _) ?_)
      | fail
    exact ⟨⟨rfl, rfl, trivial⟩, rfl, trivial⟩
  rw [if_pos rfl] at ht
  by_cases hN : N1 = N2
  · rw [if_pos hN] at ht
    repeat' (conv => whnf); first
      | ((refine Or.inl ⟨by rfl, _, c1, ?_⟩))
      | ((refine Or.inl ⟨by rfl, _, c2, ?_⟩))
      | ((refine Or.inl ⟨by rfl, _, ci, ?_⟩))
      | ((refine Br.beq (by rfl) ?_))
      | ((refine Br.bne (by rfl) ?_))
      | ((refine And.intro (Or.inl (Nat.zero_le _)) ?_))
      | ((refine And.intro (by intro y hy; simp at hy; subst hy; rfl) ?_))
      | (refine Br.tt ?_)
      | (refine Br.ff ?_)
      | (refine Br.dec (fun h => ?_) (fun h => ?_)) <;> try (exfalso; omega)
      | (refine Br.neg ?_)
      | (refine Br.mk (fun h => ?_) (fun h => ?_))
      | (refine And.intro rfl ?_)
      | (refine And.intro (by omega) ?_)
      | (refine ⟨_, Or.inl ⟨⟨by omega, by omega⟩, rfl⟩, ?_⟩)
      | (refine And.intro (by simp only [lens_all]; first | done | omega) ?_)
      | (refine And.intro (Nat.le_refl _) ?_)
      | fail
    refine ⟨Nat, fun k => (k : Int) ≤ N1 ∧ ∀ i, i < k → uE r (gt a (i : Int)) (gt b (i : Int)) = false, fun k => [(0, .int .i64 r), (4, .ptr 0 0 0 0), (5, .ptr 1 0 0 0), (6, .ptr 2 0 0 0), (8, .ptr 3 0 0 0), (9, .int .i64 (k : Int))], fun k => [.vars [.int .i64 N1, IL a], .vars [.int .i64 N2, IL b], .vars [.int .i64 0, .nils], .vars [.int .i64 N1, .osl 4 2 0 (ruL r a b k).length], .arr 2 (its (ruL r a b k))], fun _ => none, fun k => N1.toNat - k,
      ⟨0, ⟨by omega, fun i hi => by omega⟩, ⟨rfl, rfl, rfl, rfl, rfl, rfl, trivial⟩, ⟨⟨rfl, rfl, trivial⟩, ⟨rfl, rfl, trivial⟩, ⟨rfl, rfl, trivial⟩, ⟨rfl, ⟨Nat.le_refl _, rfl, rfl⟩, trivial⟩, rfl, trivial⟩, rfl⟩, fun k hk => ?_⟩
    obtain ⟨hk1, hk2⟩ := hk
    have hle := ruL_le r a b k
    have ca := fs_r11has N1 a k (by omega)
    have cb := fs_r11has N2 b k (by omega)
    have hsucc := ruL_succ r a b k
    have more : uE r (gt a (k : Int)) (gt b (k : Int)) = false → ∀ i, i < k + 1 → uE r (gt a (i : Int)) (gt b (i : Int)) = false := fun h i hi => by
      rcases Nat.lt_or_ge i k with h' | h'
      · exact hk2 i h'
      · have : i = k := by omega
        subst this; exact h
    have fin : ¬ (k : Int) < N1 → t = (N1, ruL r a b k, 0) := fun h => by
      have hkn : N1.toNat = k := by omega
      rw [← ht, hkn, if_neg (by rw [any_lt.2 hk2]; simp)]
    cases hx : gt a (k : Int) with
    | none =>
      rw [hx] at ca hsucc more
      cases hy : gt b (k : Int) with
      | none =>
        rw [hy] at cb hsucc more
        repeat' (conv => whnf); first
          | ((refine Or.inl ⟨by rfl, _, ca, ?_⟩))
          | ((refine Or.inl ⟨by rfl, _, cb, ?_⟩))
          | ((refine Br.beq (by rfl) ?_))
          | ((refine Br.bne (by rfl) ?_))
          | ((refine And.intro (Or.inl (Nat.zero_le _)) ?_))
          | ((refine And.intro (by intro y hy; simp at hy; subst hy; rfl) ?_))
          | (refine Br.tt ?_)
          | (refine Br.ff ?_)
          | (refine Br.dec (fun h => ?_) (fun h => ?_)) <;> try (exfalso; omega)
          | (refine Br.neg ?_)
          | (refine Br.mk (fun h => ?_) (fun h => ?_))
          | (refine And.intro rfl ?_)
          | (refine And.intro (by omega) ?_)
          | (refine ⟨_, Or.inl ⟨⟨by omega, by omega⟩, rfl⟩, ?_⟩)
          | (refine And.intro (by simp only [lens_all, its_len]; first | done | omega) ?_)
          | (refine And.intro (Nat.le_refl _) ?_)
          | fail
        · refine ⟨k + 1, ⟨by omega, more rfl⟩, (show N1.toNat - (k + 1) < N1.toNat - k by omega), ⟨rfl, rfl, rfl, rfl, rfl, rfl, trivial⟩, ⟨⟨rfl, rfl, trivial⟩, ⟨rfl, rfl, trivial⟩, ⟨rfl, rfl, trivial⟩, ⟨rfl, ?_, trivial⟩, ?_, trivial⟩, rfl⟩
          · rw [hsucc]; exact (congrArg (SV.osl 4 2 0) (by simp [uV]))
          · rw [hsucc]; exact (congrArg (fun l => Blk.arr 2 (its l)) (by simp [uV]))
        · obtain rfl := fin (by omega)
          conv => whnf
          rw [frz_its]
          rfl
      | some y =>
        rw [hy] at cb hsucc more
        repeat' (conv => whnf); first
          | ((refine Or.inl ⟨by rfl, _, ca, ?_⟩))
          | ((refine Or.inl ⟨by rfl, _, cb, ?_⟩))
          | ((refine Br.beq (by rfl) ?_))
          | ((refine Br.bne (by rfl) ?_))
          | ((refine And.intro (Or.inl (Nat.zero_le _)) ?_))
          | ((refine And.intro (by intro y hy; simp at hy; subst hy; rfl) ?_))
          | (refine Br.tt ?_)
          | (refine Br.ff ?_)
          | (refine Br.dec (fun h => ?_) (fun h => ?_)) <;> try (exfalso; omega)
          | (refine Br.neg ?_)
          | (refine Br.mk (fun h => ?_) (fun h => ?_))
          | (refine And.intro rfl ?_)
          | (refine And.intro (by omega) ?_)
          | (refine ⟨_, Or.inl ⟨⟨by omega, by omega⟩, rfl⟩, ?_⟩)
          | (refine And.intro (by simp only [lens_all, its_len]; first | done | omega) ?_)
          | (refine And.intro (Nat.le_refl _) ?_)
          | fail
        · refine ⟨k + 1, ⟨by omega, more rfl⟩, (show N1.toNat - (k + 1) < N1.toNat - k by omega), ⟨rfl, rfl, rfl, rfl, rfl, rfl, trivial⟩, ⟨⟨rfl, rfl, trivial⟩, ⟨rfl, rfl, trivial⟩, ⟨rfl, rfl, trivial⟩, ⟨rfl, ?_, trivial⟩, ?_, trivial⟩, rfl⟩
          · rw [hsucc]; exact (congrArg (SV.osl 4 2 0) (by simp [uV]))
          · rw [hsucc, its_append]; rfl
        · obtain rfl := fin (by omega)
          conv => whnf
          rw [frz_its]
          rfl
    | some x =>
      have ix := (b1 _ (gt_mem hx)).2
      rw [hx] at ca hsucc more
      cases hy : gt b (k : Int) with
      | none =>
        rw [hy] at cb hsucc more
        repeat' (conv => whnf); first
          | ((refine Or.inl ⟨by rfl, _, ca, ?_⟩))
          | ((refine Or.inl ⟨by rfl, _, cb, ?_⟩))
          | ((refine Br.beq (by rfl) ?_))
          | ((refine Br.bne (by rfl) ?_))
          | ((refine And.intro (Or.inl (Nat.zero_le _)) ?_))
          | ((refine And.intro (by intro y hy; simp at hy; subst hy; rfl) ?_))
          | (refine Br.tt ?_)
          | (refine Br.ff ?_)
          | (refine Br.dec (fun h => ?_) (fun h => ?_)) <;> try (exfalso; omega)
          | (refine Br.neg ?_)
          | (refine Br.mk (fun h => ?_) (fun h => ?_))
          | (refine And.intro rfl ?_)
          | (refine And.intro (by omega) ?_)
          | (refine ⟨_, Or.inl ⟨⟨by omega, by omega⟩, rfl⟩, ?_⟩)
          | (refine And.intro (by simp only [lens_all, its_len]; first | done | omega) ?_)
          | (refine And.intro (Nat.le_refl _) ?_)
          | fail
        · refine ⟨k + 1, ⟨by omega, more rfl⟩, (show N1.toNat - (k + 1) < N1.toNat - k by omega), ⟨rfl, rfl, rfl, rfl, rfl, rfl, trivial⟩, ⟨⟨rfl, rfl, trivial⟩, ⟨rfl, rfl, trivial⟩, ⟨rfl, rfl, trivial⟩, ⟨rfl, ?_, trivial⟩, ?_, trivial⟩, rfl⟩
          · rw [hsucc]; exact (congrArg (SV.osl 4 2 0) (by simp [uV]))
          · rw [hsucc, its_append]; rfl
        · obtain rfl := fin (by omega)
          conv => whnf
          rw [frz_its]
          rfl
      | some y =>
        have iy := (b2 _ (gt_mem hy)).2
        rw [hy] at cb hsucc more
        have d1 := fs_r1Of x ix
        have d2 := fs_r1Of y iy
        have d3 := fs_r2Add r x y (W64i ix) (W64i iy)
        have d4 := fs_r1Narrow (rAdd r x y) (rAdd_w (W64i ix) (W64i iy))
        obtain ⟨f, hf⟩ : ∃ f, fits (rAdd r x y) = f := ⟨_, rfl⟩
        rw [hf] at d4
        cases f
        · repeat' (conv => whnf); first
            | ((refine Or.inl ⟨by rfl, _, ca, ?_⟩))
            | ((refine Or.inl ⟨by rfl, _, cb, ?_⟩))
            | ((refine Or.inl ⟨by rfl, _, d1, ?_⟩))
            | ((refine Or.inl ⟨by rfl, _, d2, ?_⟩))
            | ((refine Or.inl ⟨by rfl, _, d3, ?_⟩))
            | ((refine Or.inl ⟨by rfl, _, d4, ?_⟩))
            | ((refine Br.beq (by rfl) ?_))
            | ((refine Br.bne (by rfl) ?_))
            | ((refine And.intro (Or.inl (Nat.zero_le _)) ?_))
            | ((refine And.intro (by intro y hy; simp at hy; subst hy; rfl) ?_))
            | (refine Br.tt ?_)
            | (refine Br.ff ?_)
            | (refine Br.dec (fun h => ?_) (fun h => ?_)) <;> try (exfalso; omega)
            | (refine Br.neg ?_)
            | (refine Br.mk (fun h => ?_) (fun h => ?_))
            | (refine And.intro rfl ?_)
            | (refine And.intro (by omega) ?_)
            | (refine ⟨_, Or.inl ⟨⟨by omega, by omega⟩, rfl⟩, ?_⟩)
            | (refine And.intro (by simp only [lens_all, its_len]; first | done | omega) ?_)
            | (refine And.intro (Nat.le_refl _) ?_)
            | fail
          · have : t = (0, [], 12) := by
              rw [← ht, if_pos (any_lt' (i := k) (by omega) (by rw [hx, hy]; show (!fits (rAdd r x y)) = true; rw [hf]; rfl))]
            subst this
            exact ⟨⟨rfl, rfl, trivial⟩, rfl, trivial⟩
          · obtain rfl := fin (by omega)
            conv => whnf
            rw [frz_its]
            rfl
        · repeat' (conv => whnf); first
            | ((refine Or.inl ⟨by rfl, _, ca, ?_⟩))
            | ((refine Or.inl ⟨by rfl, _, cb, ?_⟩))
            | ((refine Or.inl ⟨by rfl, _, d1, ?_⟩))
            | ((refine Or.inl ⟨by rfl, _, d2, ?_⟩))
            | ((refine Or.inl ⟨by rfl, _, d3, ?_⟩))
            | ((refine Or.inl ⟨by rfl, _, d4, ?_⟩))
            | ((refine Br.beq (by rfl) ?_))
            | ((refine Br.bne (by rfl) ?_))
            | ((refine And.intro (Or.inl (Nat.zero_le _)) ?_))
            | ((refine And.intro (by intro y hy; simp at hy; subst hy; rfl) ?_))
            | (refine Br.tt ?_)
            | (refine Br.ff ?_)
            | (refine Br.dec (fun h => ?_) (fun h => ?_)) <;> try (exfalso; omega)
            | (refine Br.neg ?_)
            | (refine Br.mk (fun h => ?_) (fun h => ?_))
            | (refine And.intro rfl ?_)
            | (refine And.intro (by omega) ?_)
            | (refine ⟨_, Or.inl ⟨⟨by omega, by omega⟩, rfl⟩, ?_⟩)
            | (refine And.intro (by simp only [lens_all, its_len]; first | done | omega) ?_)
            | (refine And.intro (Nat.le_refl _) ?_)
            | fail
          · refine ⟨k + 1, ⟨by omega, more (by show (!fits (rAdd r x y)) = false; rw [hf]; rfl)⟩, (show N1.toNat - (k + 1) < N1.toNat - k by omega), ⟨rfl, rfl, rfl, rfl, rfl, rfl, trivial⟩, ⟨⟨rfl, rfl, trivial⟩, ⟨rfl, rfl, trivial⟩, ⟨rfl, rfl, trivial⟩, ⟨rfl, ?_, trivial⟩, ?_, trivial⟩, rfl⟩
            · rw [hsucc]; exact (congrArg (SV.osl 4 2 0) (by simp [uV]))
            · rw [hsucc, its_append]; rfl
          · obtain rfl := fin (by omega)
            conv => whnf
            rw [frz_its]
            rfl
  · rw [if_neg hN] at ht
    subst ht
    repeat' (conv => whnf); first
      | ((refine Or.inl ⟨by rfl, _, c1, ?_⟩))
      | ((refine Or.inl ⟨by rfl, _, c2, ?_⟩))
      | ((refine Or.inl ⟨by rfl, _, ci, ?_⟩))
      | ((refine Br.beq (by rfl) ?_))
      | ((refine Br.bne (by rfl) ?_))
      | ((refine And.intro (Or.inl (Nat.zero_le _)) ?_))
      | ((refine And.intro (by intro y hy; simp at hy; subst hy; rfl) ?_))
      | (refine Br.tt ?_)
      | (refine Br.ff ?_)
      | (refine Br.dec (fun h => ?_) (fun h => ?_)) <;> try (exfalso; omega)
      | (refine Br.neg ?_)
      | (refine Br.mk (fun h => ?_) (fun h => ?_))
      | (refine And.intro rfl ?_)
      | (refine And.intro (by omega) ?_)
      | (refine ⟨_, Or.inl ⟨⟨by omega, by omega⟩, rfl⟩, ?_⟩)
      | (refine And.intro (by simp only [lens_all]; first | done | omega) ?_)
      | (refine And.intro (Nat.le_refl _) ?_)
      | fail
    exact ⟨⟨rfl, rfl, trivial⟩, rfl, trivial⟩
end
end Go.Proofs.Ytckbagpdahhiiaa
