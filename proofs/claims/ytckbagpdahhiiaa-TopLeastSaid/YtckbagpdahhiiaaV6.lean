/- Two sparse vectors: the document's functions, further. -/
import Derived.Test.YtckbagpdahhiiaaV5
namespace Go.Proofs.Ytckbagpdahhiiaa
section
open Go.RowKit
attribute [local irreducible] FS FO IT HS

/-- An item of the first k more. -/
theorem vtake_more {l : List (Int × Int)} {k : Nat} (h : k < l.length) : l.take (k + 1) = l.take k ++ [l.getD k (0, 0)] := by
  rw [List.take_add_one, getD_some h]; rfl
theorem mem_getD {l : List (Int × Int)} {k : Nat} (h : k < l.length) : l.getD k (0, 0) ∈ l := List.mem_of_getElem? (getD_some h)

def mE (r : Int) (b : List (Int × Int)) (x : Int × Int) : Bool := match gt b x.1 with
  | none => false
  | some y => !fits (rMul r x.2 y)
def mV (r : Int) (b : List (Int × Int)) (x : Int × Int) : Option (Int × Int) := match gt b x.1 with
  | none => none
  | some y => some (x.1, nar (rMul r x.2 y))
def rmR (r n1 : Int) (a : List (Int × Int)) (n2 : Int) (b : List (Int × Int)) : Int × List (Int × Int) × Int :=
  if isR r = true then if n1 = n2 then if a.any (mE r b) = true then (0, [], 12) else (n1, a.filterMap (mV r b), 0) else (0, [], 4) else (0, [], 8)
theorem any_take {p : Int × Int → Bool} {l : List (Int × Int)} {k : Nat} (h : k < l.length) (hk : (l.take k).any p = false) (hp : p (l.getD k (0, 0)) = false) : (l.take (k + 1)).any p = false := by
  rw [vtake_more h, List.any_append, hk]
  show (false || (p _ || false)) = false
  rw [hp]; rfl
theorem fm_one (f : Int × Int → Option (Int × Int)) (x : Int × Int) : [x].filterMap f = (f x).toList := by cases h : f x <;> simp [h]
theorem any_yes {p : Int × Int → Bool} {l : List (Int × Int)} {k : Nat} (h : k < l.length) (hp : p (l.getD k (0, 0)) = true) : l.any p = true := List.any_eq_true.2 ⟨_, mem_getD h, hp⟩

def ir_fretworkref11_Meet : IR :=
(.seq
 (.reg (⟨(some 4), .bx (.t 1), none⟩ ::
   ⟨(some 5), .bx (.t 2), none⟩ ::
   ⟨(some 6), .al [.int .i64 0, .nils], none⟩ ::
   ⟨(some 7), .mv (.c (.int .i64 0)), none⟩ ::
   []))
 (.seq
  (.draw (⟨(some 14), .ld 2 true (.t 4), none⟩ ::
    ⟨(some 15), .call (.c (.fn 62 [])) [(.t 14)], none⟩ ::
    ⟨(some 16), .ld 2 true (.t 5), none⟩ ::
    [])
   (⟨(some 17), .call (.c (.fn 62 [])) [(.t 16)], none⟩ ::
    ⟨none, .st 2 (.t 4) (.t 15), none⟩ ::
    ⟨none, .st 2 (.t 5) (.t 17), none⟩ ::
    []))
  (.seq
   (.seq
    (.reg (⟨(some 18), .mv (.t 0), none⟩ ::
      ⟨(some 19), .call (.c (.fn 30 [])) [(.t 18)], none⟩ ::
      ⟨(some 20), .un .not (.t 19), none⟩ ::
      []))
    (.cond (.t 20)
     (.seq
      (.reg (⟨(some 21), .bld [.int .i64 0, .nils] [], none⟩ ::
        ⟨none, .st 2 (.t 6) (.t 21), none⟩ ::
        ⟨(some 7), .mv (.c (.int .i64 8)), none⟩ ::
        []))
      .ret)
     .skip))
   (.seq
    (.seq
     (.reg (⟨(some 22), .fa 0 (.t 4), none⟩ ::
       ⟨(some 23), .ld 1 false (.t 22), none⟩ ::
       ⟨(some 24), .fa 0 (.t 5), none⟩ ::
       ⟨(some 25), .ld 1 false (.t 24), none⟩ ::
       ⟨(some 26), .bin .neq (.t 23) (.t 25), none⟩ ::
       []))
     (.cond (.t 26)
      (.seq
       (.reg (⟨(some 27), .bld [.int .i64 0, .nils] [], none⟩ ::
         ⟨none, .st 2 (.t 6) (.t 27), none⟩ ::
         ⟨(some 7), .mv (.c (.int .i64 4)), none⟩ ::
         []))
       .ret)
      .skip))
    (.seq
     (.reg (⟨(some 28), .fa 0 (.t 4), none⟩ ::
       ⟨(some 29), .ld 1 false (.t 28), none⟩ ::
       ⟨(some 30), .bld [.int .i64 0, .nils] [(0, 1, (.t 29))], none⟩ ::
       ⟨(some 8), .al [.int .i64 0, .nils], none⟩ ::
       ⟨none, .st 2 (.t 8) (.t 30), none⟩ ::
       []))
     (.seq
      (.seq
       (.reg (⟨(some 9), .mv (.c (.int .i64 0)), none⟩ ::
         []))
       (.block 0
        (.loop
         (.seq
          (.seq
           (.reg (⟨(some 31), .mv (.t 9), none⟩ ::
             ⟨(some 32), .fa 1 (.t 4), none⟩ ::
             ⟨(some 33), .ld 1 false (.t 32), none⟩ ::
             ⟨(some 34), .ln (.t 33), none⟩ ::
             ⟨(some 35), .bin .lss (.t 31) (.t 34), none⟩ ::
             []))
           (.cond (.t 35)
            .skip
            (.exit 0)))
          (.seq
           (.block 1
            (.seq
             (.draw (⟨(some 39), .ld 2 true (.t 5), none⟩ ::
               ⟨(some 40), .fa 1 (.t 4), none⟩ ::
               ⟨(some 41), .ld 1 false (.t 40), none⟩ ::
               ⟨(some 42), .mv (.t 9), none⟩ ::
               ⟨(some 43), .ia 2 (.t 41) (.t 42), none⟩ ::
               ⟨(some 44), .fa 0 (.t 43), none⟩ ::
               ⟨(some 45), .ld 1 false (.t 44), none⟩ ::
               ⟨(some 46), .call (.c (.fn 63 [])) [(.t 39), (.t 45)], none⟩ ::
               ⟨(some 38), .mv (.t 46), none⟩ ::
               ⟨(some 47), .ex 0 (.t 38), none⟩ ::
               ⟨(some 48), .ex 1 (.t 38), none⟩ ::
               ⟨(some 10), .mv (.t 47), none⟩ ::
               [])
              (⟨(some 11), .mv (.t 48), none⟩ ::
               []))
             (.seq
              (.seq
               (.reg (⟨(some 49), .mv (.t 11), none⟩ ::
                 ⟨(some 50), .un .not (.t 49), none⟩ ::
                 []))
               (.cond (.t 50)
                (.exit 1)
                .skip))
              (.seq
               (.reg (⟨(some 52), .mv (.t 0), none⟩ ::
                 ⟨(some 53), .fa 1 (.t 4), none⟩ ::
                 ⟨(some 54), .ld 1 false (.t 53), none⟩ ::
                 ⟨(some 55), .mv (.t 9), none⟩ ::
                 ⟨(some 56), .ia 2 (.t 54) (.t 55), none⟩ ::
                 ⟨(some 57), .fa 1 (.t 56), none⟩ ::
                 ⟨(some 58), .ld 1 false (.t 57), none⟩ ::
                 ⟨(some 59), .mv (.t 10), none⟩ ::
                 ⟨(some 60), .call (.c (.fn 66 [])) [(.t 52), (.t 58), (.t 59)], none⟩ ::
                 ⟨(some 61), .call (.c (.fn 47 [])) [(.t 60)], none⟩ ::
                 ⟨(some 51), .mv (.t 61), none⟩ ::
                 ⟨(some 62), .ex 0 (.t 51), none⟩ ::
                 ⟨(some 63), .ex 1 (.t 51), none⟩ ::
                 ⟨(some 12), .mv (.t 62), none⟩ ::
                 ⟨(some 13), .mv (.t 63), none⟩ ::
                 []))
               (.seq
                (.seq
                 (.reg (⟨(some 64), .mv (.t 13), none⟩ ::
                   ⟨(some 65), .un .not (.t 64), none⟩ ::
                   []))
                 (.cond (.t 65)
                  (.seq
                   (.reg (⟨(some 66), .bld [.int .i64 0, .nils] [], none⟩ ::
                     ⟨none, .st 2 (.t 6) (.t 66), none⟩ ::
                     ⟨(some 7), .mv (.c (.int .i64 12)), none⟩ ::
                     []))
                   .ret)
                  .skip))
                (.draw (⟨(some 67), .fa 1 (.t 8), none⟩ ::
                  ⟨(some 68), .ld 1 false (.t 67), none⟩ ::
                  ⟨(some 69), .fa 1 (.t 4), none⟩ ::
                  ⟨(some 70), .ld 1 false (.t 69), none⟩ ::
                  ⟨(some 71), .mv (.t 9), none⟩ ::
                  ⟨(some 72), .ia 2 (.t 70) (.t 71), none⟩ ::
                  ⟨(some 73), .fa 0 (.t 72), none⟩ ::
                  ⟨(some 74), .ld 1 false (.t 73), none⟩ ::
                  ⟨(some 75), .mv (.t 12), none⟩ ::
                  ⟨(some 76), .bld [.int .i64 0, .int .i64 0] [(0, 1, (.t 74)), (1, 1, (.t 75))], none⟩ ::
                  ⟨(some 77), .bsl 1 2 [.int .i64 0, .int .i64 0] [(0, (.t 76))], none⟩ ::
                  [])
                 (⟨(some 78), .ap 2 16 (.t 68) (.t 77), none⟩ ::
                  ⟨(some 79), .fa 1 (.t 8), none⟩ ::
                  ⟨none, .st 1 (.t 79) (.t 78), none⟩ ::
                  [])))))))
           (.reg (⟨(some 36), .mv (.t 9), none⟩ ::
             ⟨(some 37), .bin .add (.t 36) (.c (.int .i64 1)), none⟩ ::
             ⟨(some 9), .mv (.t 37), none⟩ ::
             [])))))))
      (.seq
       (.reg (⟨(some 80), .ld 2 true (.t 8), none⟩ ::
         ⟨none, .st 2 (.t 6) (.t 80), none⟩ ::
         ⟨(some 7), .mv (.c (.int .i64 0)), none⟩ ::
         []))
       .ret)))))))
theorem cd_fretworkref11_Meet : Code1 Try.prog 21 81 ir_fretworkref11_Meet [.c 2 true 6, .t 7] := ⟨Try.call21, _, _, Try.func21, rfl, by kernel_rfl, by kernel_rfl, by kernel_rfl, by kernel_rfl⟩

set_option maxHeartbeats 4000000 in
theorem fs_r11Meet (r n1 : Int) (l1 : List (Int × Int)) (n2 : Int) (l2 : List (Int × Int)) (hl1 : l1.length ≤ 400000000) (hl2 : l2.length ≤ 400000000) (h1 : Ib l1) (h2 : Ib l2) : FS Try.prog 21 [.int .i64 r, VC n1 l1, VC n2 l2] (VE (rmR r (sn n1 l1) (sl n1 l1) (sn n2 l2) (sl n2 l2))) := by
  refine fs_of_cvc mixed cd_fretworkref11_Meet (by simp) ?_
  have c1 := fs_r9Sure n1 l1 (by omega)
  have c2 := fs_r9Sure n2 l2 (by omega)
  have s1 := sl_len n1 l1
  have s2 := sl_len n2 l2
  have b1 : Ib (sl n1 l1) := h1.sl
  have b2 : Ib (sl n2 l2) := h2.sl
  generalize sn n1 l1 = N1 at *
  generalize sn n2 l2 = N2 at *
  generalize sl n1 l1 = a at *
  generalize sl n2 l2 = b at *
  have hal := its_len a
  obtain ⟨q, hq⟩ : ∃ q, isR r = q := ⟨_, rfl⟩
  have ci := fs_r2Is r
  rw [hq] at ci
  generalize ht : rmR r N1 a N2 b = t
  unfold rmR at ht
  rw [hq] at ht
  cases q
  · have ht' : t = (0, [], 8) := ht.symm
    subst ht'
    repeat' (conv => whnf); first
      | ((refine Or.inl ⟨by rfl, _, c1, ?_⟩))
      | ((refine Or.inl ⟨by rfl, _, c2, ?_⟩))
      | ((refine Or.inl ⟨by rfl, _, ci, ?_⟩))
      | ((refine Br.beq (by rfl) ?_))
      | ((refine Br.bne (by rfl) ?_))
      | ((refine And.intro (Or.inl (Nat.zero_le _)) ?_))
      | ((refine And.intro (by intro y hy; simp at hy; subst hy; rfl) ?_))
      | (refine Br.tt ?_)
      | (refine Br.ff ?_)
      | (refine Br.dec (fun h => ?_) (fun h => ?_)) <;> try (exfalso; omega)
      | (refine Br.neg ?_)
      | (refine Br.mk (fun h => ?_) (fun h => ?_))
      | (refine And.intro rfl ?_)
      | (refine And.intro (by omega) ?_)
      | (refine ⟨_, Or.inl ⟨⟨by omega, by omega⟩, rfl⟩, ?_⟩)
      | (refine And.intro (by simp only [lens_all]; first | done | omega) ?_)
      | (refine And.intro (Nat.le_refl _) ?_)
      | fail
    exact ⟨⟨rfl, rfl, trivial⟩, rfl, trivial⟩
  rw [if_pos rfl] at ht
  by_cases hN : N1 = N2
  · rw [if_pos hN] at ht
    repeat' (conv => whnf); first
      | ((refine Or.inl ⟨by rfl, _, c1, ?_⟩))
      | ((refine Or.inl ⟨by rfl, _, c2, ?_⟩))
      | ((refine Or.inl ⟨by rfl, _, ci, ?_⟩))
      | ((refine Br.beq (by rfl) ?_))
      | ((refine Br.bne (by rfl) ?_))
      | ((refine And.intro (Or.inl (Nat.zero_le _)) ?_))
      | ((refine And.intro (by intro y hy; simp at hy; subst hy; rfl) ?_))
      | (refine Br.tt ?_)
      | (refine Br.ff ?_)
      | (refine Br.dec (fun h => ?_) (fun h => ?_)) <;> try (exfalso; omega)
      | (refine Br.neg ?_)
      | (refine Br.mk (fun h => ?_) (fun h => ?_))
      | (refine And.intro rfl ?_)
      | (refine And.intro (by omega) ?_)
      | (refine ⟨_, Or.inl ⟨⟨by omega, by omega⟩, rfl⟩, ?_⟩)
      | (refine And.intro (by simp only [lens_all]; first | done | omega) ?_)
      | (refine And.intro (Nat.le_refl _) ?_)
      | fail
    refine ⟨Nat, fun k => k ≤ a.length ∧ (a.take k).any (mE r b) = false, fun k => [(0, .int .i64 r), (4, .ptr 0 0 0 0), (5, .ptr 1 0 0 0), (6, .ptr 2 0 0 0), (8, .ptr 3 0 0 0), (9, .int .i64 (k : Int))], fun k => [.vars [.int .i64 N1, IL a], .vars [.int .i64 N2, IL b], .vars [.int .i64 0, .nils], .vars [.int .i64 N1, .osl 4 2 0 ((a.take k).filterMap (mV r b)).length], .arr 2 (its ((a.take k).filterMap (mV r b)))], fun _ => none, fun k => a.length - k,
      ⟨0, ⟨by omega, rfl⟩, ⟨rfl, rfl, rfl, rfl, rfl, rfl, trivial⟩, ⟨⟨rfl, rfl, trivial⟩, ⟨rfl, rfl, trivial⟩, ⟨rfl, rfl, trivial⟩, ⟨rfl, ⟨Nat.le_refl _, rfl, rfl⟩, trivial⟩, rfl, trivial⟩, rfl⟩, fun k hk => ?_⟩
    obtain ⟨hk1, hk2⟩ := hk
    have hle := List.length_filterMap_le (mV r b) (a.take k)
    have htl : (a.take k).length ≤ a.length := by simp; omega
    have fin : ¬ k < a.length → t = (N1, (a.take k).filterMap (mV r b), 0) := fun h => by
      have hkn : a.take k = a := List.take_of_length_le (by omega)
      rw [hkn] at hk2 ⊢
      rw [← ht, if_neg (by rw [hk2]; simp)]
    by_cases hka : k < a.length
    · have ca := fs_r11has N2 b (a.getD k (0, 0)).1 (by omega)
      have hmore := any_take (p := mE r b) hka hk2
      have htm := vtake_more hka
      have hm := mem_getD hka
      have ix := (b1 _ hm).2
      cases hy : gt b (a.getD k (0, 0)).1 with
      | none =>
        rw [hy] at ca
        have hE : mE r b (a.getD k (0, 0)) = false := by unfold mE; rw [hy]
        have hV : mV r b (a.getD k (0, 0)) = none := by unfold mV; rw [hy]
        repeat' (conv => whnf); first
          | ((refine its_go (i := k) (by omega) ?_))
          | ((refine Or.inl ⟨by rfl, _, ca, ?_⟩))
          | ((refine Br.beq (by rfl) ?_))
          | ((refine Br.bne (by rfl) ?_))
          | ((refine And.intro (Or.inl (Nat.zero_le _)) ?_))
          | ((refine And.intro (by intro y hy; simp at hy; subst hy; rfl) ?_))
          | (refine Br.tt ?_)
          | (refine Br.ff ?_)
          | (refine Br.dec (fun h => ?_) (fun h => ?_)) <;> try (exfalso; omega)
          | (refine Br.neg ?_)
          | (refine Br.mk (fun h => ?_) (fun h => ?_))
          | (refine And.intro rfl ?_)
          | (refine And.intro (by omega) ?_)
          | (refine ⟨_, Or.inl ⟨⟨by omega, by omega⟩, rfl⟩, ?_⟩)
          | (refine And.intro (by simp only [lens_all]; first | done | omega) ?_)
          | (refine And.intro (Nat.le_refl _) ?_)
          | fail
        refine ⟨k + 1, ⟨by omega, hmore hE⟩, (show a.length - (k + 1) < a.length - k by omega), ⟨rfl, rfl, rfl, rfl, rfl, rfl, trivial⟩, ⟨⟨rfl, rfl, trivial⟩, ⟨rfl, rfl, trivial⟩, ⟨rfl, rfl, trivial⟩, ⟨rfl, ?_, trivial⟩, ?_, trivial⟩, rfl⟩
        · rw [htm, List.filterMap_append, fm_one, hV]; exact (congrArg (SV.osl 4 2 0) (by simp))
        · rw [htm, List.filterMap_append, fm_one, hV]; exact (congrArg (fun l => Blk.arr 2 (its l)) (by simp))
      | some y =>
        have iy := (b2 _ (gt_mem hy)).2
        rw [hy] at ca
        have d3 := fs_r2Mul r (a.getD k (0, 0)).2 y ix iy
        have d4 := fs_r1Narrow (rMul r (a.getD k (0, 0)).2 y) (rMul_w ix iy)
        have hV : mV r b (a.getD k (0, 0)) = some ((a.getD k (0, 0)).1, nar (rMul r (a.getD k (0, 0)).2 y)) := by unfold mV; rw [hy]
        have hE : mE r b (a.getD k (0, 0)) = !fits (rMul r (a.getD k (0, 0)).2 y) := by unfold mE; rw [hy]
        obtain ⟨f, hf⟩ : ∃ f, fits (rMul r (a.getD k (0, 0)).2 y) = f := ⟨_, rfl⟩
        rw [hf] at d4 hE
        cases f
        · repeat' (conv => whnf); first
            | ((refine its_go (i := k) (by omega) ?_))
            | ((refine Or.inl ⟨by rfl, _, ca, ?_⟩))
            | ((refine Or.inl ⟨by rfl, _, d3, ?_⟩))
            | ((refine Or.inl ⟨by rfl, _, d4, ?_⟩))
            | ((refine Br.beq (by rfl) ?_))
            | ((refine Br.bne (by rfl) ?_))
            | ((refine And.intro (Or.inl (Nat.zero_le _)) ?_))
            | ((refine And.intro (by intro y hy; simp at hy; subst hy; rfl) ?_))
            | (refine Br.tt ?_)
            | (refine Br.ff ?_)
            | (refine Br.dec (fun h => ?_) (fun h => ?_)) <;> try (exfalso; omega)
            | (refine Br.neg ?_)
            | (refine Br.mk (fun h => ?_) (fun h => ?_))
            | (refine And.intro rfl ?_)
            | (refine And.intro (by omega) ?_)
            | (refine ⟨_, Or.inl ⟨⟨by omega, by omega⟩, rfl⟩, ?_⟩)
            | (refine And.intro (by simp only [lens_all]; first | done | omega) ?_)
            | (refine And.intro (Nat.le_refl _) ?_)
            | fail
          have : t = (0, [], 12) := by rw [← ht, if_pos (any_yes hka hE)]
          subst this
          exact ⟨⟨rfl, rfl, trivial⟩, rfl, trivial⟩
        · repeat' (conv => whnf); first
            | ((refine its_go (i := k) (by omega) ?_))
            | ((refine Or.inl ⟨by rfl, _, ca, ?_⟩))
            | ((refine Or.inl ⟨by rfl, _, d3, ?_⟩))
            | ((refine Or.inl ⟨by rfl, _, d4, ?_⟩))
            | ((refine Br.beq (by rfl) ?_))
            | ((refine Br.bne (by rfl) ?_))
            | ((refine And.intro (Or.inl (Nat.zero_le _)) ?_))
            | ((refine And.intro (by intro y hy; simp at hy; subst hy; rfl) ?_))
            | (refine Br.tt ?_)
            | (refine Br.ff ?_)
            | (refine Br.dec (fun h => ?_) (fun h => ?_)) <;> try (exfalso; omega)
            | (refine Br.neg ?_)
            | (refine Br.mk (fun h => ?_) (fun h => ?_))
            | (refine And.intro rfl ?_)
            | (refine And.intro (by omega) ?_)
            | (refine ⟨_, Or.inl ⟨⟨by omega, by omega⟩, rfl⟩, ?_⟩)
            | (refine And.intro (by simp only [lens_all, its_len]; first | done | omega) ?_)
            | (refine And.intro (Nat.le_refl _) ?_)
            | fail
          refine ⟨k + 1, ⟨by omega, hmore hE⟩, (show a.length - (k + 1) < a.length - k by omega), ⟨rfl, rfl, rfl, rfl, rfl, rfl, trivial⟩, ⟨⟨rfl, rfl, trivial⟩, ⟨rfl, rfl, trivial⟩, ⟨rfl, rfl, trivial⟩, ⟨rfl, ?_, trivial⟩, ?_, trivial⟩, rfl⟩
          · rw [htm, List.filterMap_append, fm_one, hV]; exact (congrArg (SV.osl 4 2 0) (by simp))
          · rw [htm, List.filterMap_append, fm_one, hV, its_append]; rfl
    · repeat' (conv => whnf); first
        | ((refine Br.beq (by rfl) ?_))
        | ((refine Br.bne (by rfl) ?_))
        | ((refine And.intro (Or.inl (Nat.zero_le _)) ?_))
        | ((refine And.intro (by intro y hy; simp at hy; subst hy; rfl) ?_))
        | (refine Br.tt ?_)
        | (refine Br.ff ?_)
        | (refine Br.dec (fun h => ?_) (fun h => ?_)) <;> try (exfalso; omega)
        | (refine Br.neg ?_)
        | (refine Br.mk (fun h => ?_) (fun h => ?_))
        | (refine And.intro rfl ?_)
        | (refine And.intro (by omega) ?_)
        | (refine ⟨_, Or.inl ⟨⟨by omega, by omega⟩, rfl⟩, ?_⟩)
        | (refine And.intro (by simp only [lens_all, its_len]; first | done | omega) ?_)
        | (refine And.intro (Nat.le_refl _) ?_)
        | fail
      obtain rfl := fin hka
      conv => whnf
      rw [frz_its]
      rfl
  · rw [if_neg hN] at ht
    subst ht
    repeat' (conv => whnf); first
      | ((refine Or.inl ⟨by rfl, _, c1, ?_⟩))
      | ((refine Or.inl ⟨by rfl, _, c2, ?_⟩))
      | ((refine Or.inl ⟨by rfl, _, ci, ?_⟩))
      | ((refine Br.beq (by rfl) ?_))
      | ((refine Br.bne (by rfl) ?_))
      | ((refine And.intro (Or.inl (Nat.zero_le _)) ?_))
      | ((refine And.intro (by intro y hy; simp at hy; subst hy; rfl) ?_))
      | (refine Br.tt ?_)
      | (refine Br.ff ?_)
      | (refine Br.dec (fun h => ?_) (fun h => ?_)) <;> try (exfalso; omega)
      | (refine Br.neg ?_)
      | (refine Br.mk (fun h => ?_) (fun h => ?_))
      | (refine And.intro rfl ?_)
      | (refine And.intro (by omega) ?_)
      | (refine ⟨_, Or.inl ⟨⟨by omega, by omega⟩, rfl⟩, ?_⟩)
      | (refine And.intro (by simp only [lens_all]; first | done | omega) ?_)
      | (refine And.intro (Nat.le_refl _) ?_)
      | fail
    exact ⟨⟨rfl, rfl, trivial⟩, rfl, trivial⟩

theorem filter_more {p : Int × Int → Bool} {l : List (Int × Int)} {k : Nat} (h : k < l.length) : (l.take (k + 1)).filter p = (l.take k).filter p ++ if p (l.getD k (0, 0)) = true then [l.getD k (0, 0)] else [] := by
  rw [vtake_more h, List.filter_append]
  congr 1
  generalize l.getD k (0, 0) = x
  cases hp : p x <;> simp [hp]

def ir_fretworkref11_Mask : IR :=
(.seq
 (.reg (⟨(some 3), .bx (.t 0), none⟩ ::
   ⟨(some 6), .al [.int .i64 0, .nils], none⟩ ::
   []))
 (.seq
  (.reg (⟨(some 9), .ld 2 true (.t 3), none⟩ ::
    ⟨(some 10), .call (.c (.fn 62 [])) [(.t 9)], none⟩ ::
    ⟨none, .st 2 (.t 3) (.t 10), none⟩ ::
    []))
  (.seq
   (.reg (⟨(some 11), .fa 0 (.t 3), none⟩ ::
     ⟨(some 12), .ld 1 false (.t 11), none⟩ ::
     ⟨(some 13), .bld [.int .i64 0, .nils] [(0, 1, (.t 12))], none⟩ ::
     ⟨(some 7), .al [.int .i64 0, .nils], none⟩ ::
     ⟨none, .st 2 (.t 7) (.t 13), none⟩ ::
     []))
   (.seq
    (.seq
     (.reg (⟨(some 8), .mv (.c (.int .i64 0)), none⟩ ::
       []))
     (.block 0
      (.loop
       (.seq
        (.seq
         (.reg (⟨(some 14), .mv (.t 8), none⟩ ::
           ⟨(some 15), .fa 1 (.t 3), none⟩ ::
           ⟨(some 16), .ld 1 false (.t 15), none⟩ ::
           ⟨(some 17), .ln (.t 16), none⟩ ::
           ⟨(some 18), .bin .lss (.t 14) (.t 17), none⟩ ::
           []))
         (.cond (.t 18)
          .skip
          (.exit 0)))
        (.seq
         (.block 1
          (.seq
           (.reg (⟨(some 21), .mv (.t 1), none⟩ ::
             ⟨(some 22), .fa 1 (.t 3), none⟩ ::
             ⟨(some 23), .ld 1 false (.t 22), none⟩ ::
             ⟨(some 24), .mv (.t 8), none⟩ ::
             ⟨(some 25), .ia 2 (.t 23) (.t 24), none⟩ ::
             ⟨(some 26), .fa 0 (.t 25), none⟩ ::
             ⟨(some 27), .ld 1 false (.t 26), none⟩ ::
             ⟨(some 28), .call (.c (.fn 76 [])) [(.t 21), (.t 27)], none⟩ ::
             ⟨(some 29), .mv (.t 2), none⟩ ::
             ⟨(some 30), .beq true (.t 28) (.t 29), none⟩ ::
             []))
           (.cond (.t 30)
            (.draw (⟨(some 31), .fa 1 (.t 7), none⟩ ::
              ⟨(some 32), .ld 1 false (.t 31), none⟩ ::
              ⟨(some 33), .fa 1 (.t 3), none⟩ ::
              ⟨(some 34), .ld 1 false (.t 33), none⟩ ::
              ⟨(some 35), .mv (.t 8), none⟩ ::
              ⟨(some 36), .ia 2 (.t 34) (.t 35), none⟩ ::
              ⟨(some 37), .ld 2 true (.t 36), none⟩ ::
              ⟨(some 38), .bsl 1 2 [.int .i64 0, .int .i64 0] [(0, (.t 37))], none⟩ ::
              [])
             (⟨(some 39), .ap 2 16 (.t 32) (.t 38), none⟩ ::
              ⟨(some 40), .fa 1 (.t 7), none⟩ ::
              ⟨none, .st 1 (.t 40) (.t 39), none⟩ ::
              []))
            .skip)))
         (.reg (⟨(some 19), .mv (.t 8), none⟩ ::
           ⟨(some 20), .bin .add (.t 19) (.c (.int .i64 1)), none⟩ ::
           ⟨(some 8), .mv (.t 20), none⟩ ::
           [])))))))
    (.seq
     (.reg (⟨(some 41), .ld 2 true (.t 7), none⟩ ::
       ⟨none, .st 2 (.t 6) (.t 41), none⟩ ::
       []))
     .ret)))))
theorem cd_fretworkref11_Mask : Code1 Try.prog 28 42 ir_fretworkref11_Mask [.c 2 true 6] := ⟨Try.call28, _, _, Try.func28, rfl, by kernel_rfl, by kernel_rfl, by kernel_rfl, by kernel_rfl⟩

set_option maxHeartbeats 4000000 in
theorem fs_r11Mask (n : Int) (l : List (Int × Int)) (f : List Nat) (o : Bool) (hl : l.length ≤ 400000000) (hb : Ib l) (hw : Wd f) (hfl : f.length ≤ 1000000) : FS Try.prog 28 [VC n l, U f, .bool o] (VC (sn n l) (rest (fun x => hasI f x.1 == o) (sl n l))) := by
  refine fs_of_cvc mixed cd_fretworkref11_Mask (by simp) ?_
  have c1 := fs_r9Sure n l (by omega)
  have s1 := sl_len n l
  have b1 : Ib (sl n l) := hb.sl
  generalize sn n l = N1 at *
  generalize sl n l = a at *
  have hal := its_len a
  repeat' (conv => whnf); first
    | ((refine Or.inl ⟨by rfl, _, c1, ?_⟩))
    | ((refine Br.beq (by rfl) ?_))
    | ((refine Br.bne (by rfl) ?_))
    | ((refine And.intro (Or.inl (Nat.zero_le _)) ?_))
    | ((refine And.intro (by intro y hy; simp at hy; subst hy; rfl) ?_))
    | (refine Br.tt ?_)
    | (refine Br.ff ?_)
    | (refine Br.dec (fun h => ?_) (fun h => ?_)) <;> try (exfalso; omega)
    | (refine Br.neg ?_)
    | (refine Br.mk (fun h => ?_) (fun h => ?_))
    | (refine And.intro rfl ?_)
    | (refine And.intro (by omega) ?_)
    | (refine ⟨_, Or.inl ⟨⟨by omega, by omega⟩, rfl⟩, ?_⟩)
    | (refine And.intro (by simp only [lens_all]; first | done | omega) ?_)
    | (refine And.intro (Nat.le_refl _) ?_)
    | fail
  refine ⟨Nat, fun k => k ≤ a.length, fun k => [(1, U f), (2, .bool o), (3, .ptr 0 0 0 0), (6, .ptr 1 0 0 0), (7, .ptr 2 0 0 0), (8, .int .i64 (k : Int))], fun k => [.vars [.int .i64 N1, IL a], .vars [.int .i64 0, .nils], .vars [.int .i64 N1, .osl 3 2 0 (rest (fun x => hasI f x.1 == o) (a.take k)).length], .arr 2 (its (rest (fun x => hasI f x.1 == o) (a.take k)))], fun _ => none, fun k => a.length - k,
      ⟨0, Nat.zero_le _, ⟨rfl, rfl, rfl, rfl, rfl, rfl, trivial⟩, ⟨⟨rfl, rfl, trivial⟩, ⟨rfl, rfl, trivial⟩, ⟨rfl, ⟨Nat.le_refl _, rfl, rfl⟩, trivial⟩, rfl, trivial⟩, rfl⟩, fun k hk => ?_⟩
  have hk : k ≤ a.length := hk
  have hle := rest_le (fun x => hasI f x.1 == o) (a.take k)
  have htl : (a.take k).length ≤ a.length := by simp; omega
  by_cases hka : k < a.length
  · have hm := mem_getD hka
    have ca := fs_rHas f hw hfl (a.getD k (0, 0)).1 (b1 _ hm).1.2
    have hmore : rest (fun x => hasI f x.1 == o) (a.take (k + 1)) = _ := filter_more (p := fun x => !(hasI f x.1 == o)) hka
    obtain ⟨h, hh⟩ : ∃ h, hasI f (a.getD k (0, 0)).1 = h := ⟨_, rfl⟩
    rw [hh] at ca hmore
    cases h <;> cases o
    all_goals repeat' (conv => whnf); first
      | ((refine its_go (i := k) (by omega) ?_))
      | ((refine Or.inl ⟨by rfl, _, ca, ?_⟩))
      | ((refine Br.beq (by rfl) ?_))
      | ((refine Br.bne (by rfl) ?_))
      | ((refine And.intro (Or.inl (Nat.zero_le _)) ?_))
      | ((refine And.intro (by intro y hy; simp at hy; subst hy; rfl) ?_))
      | (refine Br.tt ?_)
      | (refine Br.ff ?_)
      | (refine Br.dec (fun h => ?_) (fun h => ?_)) <;> try (exfalso; omega)
      | (refine Br.neg ?_)
      | (refine Br.mk (fun h => ?_) (fun h => ?_))
      | (refine And.intro rfl ?_)
      | (refine And.intro (by omega) ?_)
      | (refine ⟨_, Or.inl ⟨⟨by omega, by omega⟩, rfl⟩, ?_⟩)
      | (refine And.intro (by simp only [lens_all, its_len]; first | done | omega) ?_)
      | (refine And.intro (Nat.le_refl _) ?_)
      | fail
    all_goals
      refine ⟨k + 1, (show k + 1 ≤ a.length by omega), (show a.length - (k + 1) < a.length - k by omega), ⟨rfl, rfl, rfl, rfl, rfl, rfl, trivial⟩, ⟨⟨rfl, rfl, trivial⟩, ⟨rfl, rfl, trivial⟩, ⟨rfl, ?_, trivial⟩, ?_, trivial⟩, rfl⟩
      · rw [hmore]; exact (congrArg (SV.osl 3 2 0) (by simp [rest]))
      · first
          | (rw [hmore]; exact (congrArg (fun l => Blk.arr 2 (its l)) (by simp [rest])))
          | (rw [hmore, its_append]; rfl)
  · have hkn : a.take k = a := List.take_of_length_le (by omega)
    repeat' (conv => whnf); first
      | ((refine Br.beq (by rfl) ?_))
      | ((refine Br.bne (by rfl) ?_))
      | ((refine And.intro (Or.inl (Nat.zero_le _)) ?_))
      | ((refine And.intro (by intro y hy; simp at hy; subst hy; rfl) ?_))
      | (refine Br.tt ?_)
      | (refine Br.ff ?_)
      | (refine Br.dec (fun h => ?_) (fun h => ?_)) <;> try (exfalso; omega)
      | (refine Br.neg ?_)
      | (refine Br.mk (fun h => ?_) (fun h => ?_))
      | (refine And.intro rfl ?_)
      | (refine And.intro (by omega) ?_)
      | (refine ⟨_, Or.inl ⟨⟨by omega, by omega⟩, rfl⟩, ?_⟩)
      | (refine And.intro (by simp only [lens_all, its_len]; first | done | omega) ?_)
      | (refine And.intro (Nat.le_refl _) ?_)
      | fail
    conv => whnf
    rw [frz_its, hkn]
    rfl

/-- What is less than what another one has there. -/
def bB (b : List (Int × Int)) (x : Int × Int) : Bool := match gt b x.1 with
  | none => true
  | some y => decide (x.2 < y)
def rbR (n1 : Int) (a : List (Int × Int)) (n2 : Int) (b : List (Int × Int)) : Int × List (Int × Int) × Int := if n1 = n2 then (n1, a.filter (bB b), 0) else (0, [], 4)

def ir_fretworkref11_Better : IR :=
(.seq
 (.reg (⟨(some 2), .bx (.t 0), none⟩ ::
   ⟨(some 3), .bx (.t 1), none⟩ ::
   ⟨(some 4), .al [.int .i64 0, .nils], none⟩ ::
   ⟨(some 5), .mv (.c (.int .i64 0)), none⟩ ::
   []))
 (.seq
  (.draw (⟨(some 10), .ld 2 true (.t 2), none⟩ ::
    ⟨(some 11), .call (.c (.fn 62 [])) [(.t 10)], none⟩ ::
    ⟨(some 12), .ld 2 true (.t 3), none⟩ ::
    [])
   (⟨(some 13), .call (.c (.fn 62 [])) [(.t 12)], none⟩ ::
    ⟨none, .st 2 (.t 2) (.t 11), none⟩ ::
    ⟨none, .st 2 (.t 3) (.t 13), none⟩ ::
    []))
  (.seq
   (.seq
    (.reg (⟨(some 14), .fa 0 (.t 2), none⟩ ::
      ⟨(some 15), .ld 1 false (.t 14), none⟩ ::
      ⟨(some 16), .fa 0 (.t 3), none⟩ ::
      ⟨(some 17), .ld 1 false (.t 16), none⟩ ::
      ⟨(some 18), .bin .neq (.t 15) (.t 17), none⟩ ::
      []))
    (.cond (.t 18)
     (.seq
      (.reg (⟨(some 19), .bld [.int .i64 0, .nils] [], none⟩ ::
        ⟨none, .st 2 (.t 4) (.t 19), none⟩ ::
        ⟨(some 5), .mv (.c (.int .i64 4)), none⟩ ::
        []))
      .ret)
     .skip))
   (.seq
    (.reg (⟨(some 20), .fa 0 (.t 2), none⟩ ::
      ⟨(some 21), .ld 1 false (.t 20), none⟩ ::
      ⟨(some 22), .bld [.int .i64 0, .nils] [(0, 1, (.t 21))], none⟩ ::
      ⟨(some 6), .al [.int .i64 0, .nils], none⟩ ::
      ⟨none, .st 2 (.t 6) (.t 22), none⟩ ::
      []))
    (.seq
     (.seq
      (.reg (⟨(some 7), .mv (.c (.int .i64 0)), none⟩ ::
        []))
      (.block 0
       (.loop
        (.seq
         (.seq
          (.reg (⟨(some 23), .mv (.t 7), none⟩ ::
            ⟨(some 24), .fa 1 (.t 2), none⟩ ::
            ⟨(some 25), .ld 1 false (.t 24), none⟩ ::
            ⟨(some 26), .ln (.t 25), none⟩ ::
            ⟨(some 27), .bin .lss (.t 23) (.t 26), none⟩ ::
            []))
          (.cond (.t 27)
           .skip
           (.exit 0)))
         (.seq
          (.block 1
           (.seq
            (.draw (⟨(some 31), .ld 2 true (.t 3), none⟩ ::
              ⟨(some 32), .fa 1 (.t 2), none⟩ ::
              ⟨(some 33), .ld 1 false (.t 32), none⟩ ::
              ⟨(some 34), .mv (.t 7), none⟩ ::
              ⟨(some 35), .ia 2 (.t 33) (.t 34), none⟩ ::
              ⟨(some 36), .fa 0 (.t 35), none⟩ ::
              ⟨(some 37), .ld 1 false (.t 36), none⟩ ::
              ⟨(some 38), .call (.c (.fn 63 [])) [(.t 31), (.t 37)], none⟩ ::
              ⟨(some 30), .mv (.t 38), none⟩ ::
              ⟨(some 39), .ex 0 (.t 30), none⟩ ::
              ⟨(some 40), .ex 1 (.t 30), none⟩ ::
              ⟨(some 8), .mv (.t 39), none⟩ ::
              [])
             (⟨(some 9), .mv (.t 40), none⟩ ::
              []))
            (.seq
             (.reg (⟨(some 41), .mv (.t 9), none⟩ ::
               ⟨(some 42), .un .not (.t 41), none⟩ ::
               ⟨(some 43), .mv (.t 42), none⟩ ::
               ⟨(some 44), .fa 1 (.t 2), some (43, false)⟩ ::
               ⟨(some 45), .ld 1 false (.t 44), some (43, false)⟩ ::
               ⟨(some 46), .mv (.t 7), some (43, false)⟩ ::
               ⟨(some 47), .ia 2 (.t 45) (.t 46), some (43, false)⟩ ::
               ⟨(some 48), .fa 1 (.t 47), some (43, false)⟩ ::
               ⟨(some 49), .ld 1 false (.t 48), some (43, false)⟩ ::
               ⟨(some 50), .mv (.t 8), some (43, false)⟩ ::
               ⟨(some 51), .bin .lss (.t 49) (.t 50), some (43, false)⟩ ::
               ⟨(some 52), .pick (.t 43) (.c (.bool true)) (.t 51), none⟩ ::
               []))
             (.cond (.t 52)
              (.draw (⟨(some 53), .fa 1 (.t 6), none⟩ ::
                ⟨(some 54), .ld 1 false (.t 53), none⟩ ::
                ⟨(some 55), .fa 1 (.t 2), none⟩ ::
                ⟨(some 56), .ld 1 false (.t 55), none⟩ ::
                ⟨(some 57), .mv (.t 7), none⟩ ::
                ⟨(some 58), .ia 2 (.t 56) (.t 57), none⟩ ::
                ⟨(some 59), .ld 2 true (.t 58), none⟩ ::
                ⟨(some 60), .bsl 1 2 [.int .i64 0, .int .i64 0] [(0, (.t 59))], none⟩ ::
                [])
               (⟨(some 61), .ap 2 16 (.t 54) (.t 60), none⟩ ::
                ⟨(some 62), .fa 1 (.t 6), none⟩ ::
                ⟨none, .st 1 (.t 62) (.t 61), none⟩ ::
                []))
              .skip))))
          (.reg (⟨(some 28), .mv (.t 7), none⟩ ::
            ⟨(some 29), .bin .add (.t 28) (.c (.int .i64 1)), none⟩ ::
            ⟨(some 7), .mv (.t 29), none⟩ ::
            [])))))))
     (.seq
      (.reg (⟨(some 63), .ld 2 true (.t 6), none⟩ ::
        ⟨none, .st 2 (.t 4) (.t 63), none⟩ ::
        ⟨(some 5), .mv (.c (.int .i64 0)), none⟩ ::
        []))
      .ret))))))
theorem cd_fretworkref11_Better : Code1 Try.prog 26 64 ir_fretworkref11_Better [.c 2 true 4, .t 5] := ⟨Try.call26, _, _, Try.func26, rfl, by kernel_rfl, by kernel_rfl, by kernel_rfl, by kernel_rfl⟩

set_option maxHeartbeats 4000000 in
theorem fs_r11Better (n1 : Int) (l1 : List (Int × Int)) (n2 : Int) (l2 : List (Int × Int)) (hl1 : l1.length ≤ 400000000) (hl2 : l2.length ≤ 400000000) : FS Try.prog 26 [VC n1 l1, VC n2 l2] (VE (rbR (sn n1 l1) (sl n1 l1) (sn n2 l2) (sl n2 l2))) := by
  refine fs_of_cvc mixed cd_fretworkref11_Better (by simp) ?_
  have c1 := fs_r9Sure n1 l1 (by omega)
  have c2 := fs_r9Sure n2 l2 (by omega)
  have s1 := sl_len n1 l1
  have s2 := sl_len n2 l2
  generalize sn n1 l1 = N1 at *
  generalize sn n2 l2 = N2 at *
  generalize sl n1 l1 = a at *
  generalize sl n2 l2 = b at *
  have hal := its_len a
  generalize ht : rbR N1 a N2 b = t
  unfold rbR at ht
  by_cases hN : N1 = N2
  · rw [if_pos hN] at ht
    repeat' (conv => whnf); first
      | ((refine Or.inl ⟨by rfl, _, c1, ?_⟩))
      | ((refine Or.inl ⟨by rfl, _, c2, ?_⟩))
      | ((refine Br.beq (by rfl) ?_))
      | ((refine Br.bne (by rfl) ?_))
      | ((refine And.intro (Or.inl (Nat.zero_le _)) ?_))
      | ((refine And.intro (by intro y hy; simp at hy; subst hy; rfl) ?_))
      | (refine Br.tt ?_)
      | (refine Br.ff ?_)
      | (refine Br.dec (fun h => ?_) (fun h => ?_)) <;> try (exfalso; omega)
      | (refine Br.neg ?_)
      | (refine Br.mk (fun h => ?_) (fun h => ?_))
      | (refine And.intro rfl ?_)
      | (refine And.intro (by omega) ?_)
      | (refine ⟨_, Or.inl ⟨⟨by omega, by omega⟩, rfl⟩, ?_⟩)
      | (refine And.intro (by simp only [lens_all]; first | done | omega) ?_)
      | (refine And.intro (Nat.le_refl _) ?_)
      | fail
    refine ⟨Nat, fun k => k ≤ a.length, fun k => [(2, .ptr 0 0 0 0), (3, .ptr 1 0 0 0), (4, .ptr 2 0 0 0), (6, .ptr 3 0 0 0), (7, .int .i64 (k : Int))], fun k => [.vars [.int .i64 N1, IL a], .vars [.int .i64 N2, IL b], .vars [.int .i64 0, .nils], .vars [.int .i64 N1, .osl 4 2 0 ((a.take k).filter (bB b)).length], .arr 2 (its ((a.take k).filter (bB b)))], fun _ => none, fun k => a.length - k,
      ⟨0, Nat.zero_le _, ⟨rfl, rfl, rfl, rfl, rfl, trivial⟩, ⟨⟨rfl, rfl, trivial⟩, ⟨rfl, rfl, trivial⟩, ⟨rfl, rfl, trivial⟩, ⟨rfl, ⟨Nat.le_refl _, rfl, rfl⟩, trivial⟩, rfl, trivial⟩, rfl⟩, fun k hk => ?_⟩
    have hk : k ≤ a.length := hk
    have hle := List.length_filter_le (bB b) (a.take k)
    have htl : (a.take k).length ≤ a.length := by simp; omega
    by_cases hka : k < a.length
    · have ca := fs_r11has N2 b (a.getD k (0, 0)).1 (by omega)
      have hmore := filter_more (p := bB b) hka
      cases hy : gt b (a.getD k (0, 0)).1 with
      | none =>
        rw [hy] at ca
        have hB : bB b (a.getD k (0, 0)) = true := by unfold bB; rw [hy]
        rw [if_pos hB] at hmore
        repeat' (conv => whnf); first
          | ((refine its_go (i := k) (by omega) ?_))
          | ((refine Or.inl ⟨by rfl, _, ca, ?_⟩))
          | ((refine Br.beq (by rfl) ?_))
          | ((refine Br.bne (by rfl) ?_))
          | ((refine And.intro (Or.inl (Nat.zero_le _)) ?_))
          | ((refine And.intro (by intro y hy; simp at hy; subst hy; rfl) ?_))
          | (refine Br.tt ?_)
          | (refine Br.ff ?_)
          | (refine Br.dec (fun h => ?_) (fun h => ?_)) <;> try (exfalso; omega)
          | (refine Br.neg ?_)
          | (refine Br.mk (fun h => ?_) (fun h => ?_))
          | (refine And.intro rfl ?_)
          | (refine And.intro (by omega) ?_)
          | (refine ⟨_, Or.inl ⟨⟨by omega, by omega⟩, rfl⟩, ?_⟩)
          | (refine And.intro (by simp only [lens_all, its_len]; first | done | omega) ?_)
          | (refine And.intro (Nat.le_refl _) ?_)
          | fail
        refine ⟨k + 1, (show k + 1 ≤ a.length by omega), (show a.length - (k + 1) < a.length - k by omega), ⟨rfl, rfl, rfl, rfl, rfl, trivial⟩, ⟨⟨rfl, rfl, trivial⟩, ⟨rfl, rfl, trivial⟩, ⟨rfl, rfl, trivial⟩, ⟨rfl, ?_, trivial⟩, ?_, trivial⟩, rfl⟩
        · rw [hmore]; exact (congrArg (SV.osl 4 2 0) (by simp))
        · rw [hmore, its_append]; rfl
      | some y =>
        rw [hy] at ca
        have hB : bB b (a.getD k (0, 0)) = decide ((a.getD k (0, 0)).2 < y) := by unfold bB; rw [hy]
        rw [hB] at hmore
        repeat' (conv => whnf); first
          | ((refine its_go (i := k) (by omega) ?_))
          | ((refine Or.inl ⟨by rfl, _, ca, ?_⟩))
          | ((refine Br.beq (by rfl) ?_))
          | ((refine Br.bne (by rfl) ?_))
          | ((refine And.intro (Or.inl (Nat.zero_le _)) ?_))
          | ((refine And.intro (by intro y hy; simp at hy; subst hy; rfl) ?_))
          | (refine Br.tt ?_)
          | (refine Br.ff ?_)
          | (refine Br.dec (fun h => ?_) (fun h => ?_)) <;> try (exfalso; omega)
          | (refine Br.neg ?_)
          | (refine Br.mk (fun h => ?_) (fun h => ?_))
          | (refine And.intro rfl ?_)
          | (refine And.intro (by omega) ?_)
          | (refine ⟨_, Or.inl ⟨⟨by omega, by omega⟩, rfl⟩, ?_⟩)
          | (refine And.intro (by simp only [lens_all, its_len]; first | done | omega) ?_)
          | (refine And.intro (Nat.le_refl _) ?_)
          | fail
        · rw [if_pos (decide_eq_true (by assumption))] at hmore
          refine ⟨k + 1, (show k + 1 ≤ a.length by omega), (show a.length - (k + 1) < a.length - k by omega), ⟨rfl, rfl, rfl, rfl, rfl, trivial⟩, ⟨⟨rfl, rfl, trivial⟩, ⟨rfl, rfl, trivial⟩, ⟨rfl, rfl, trivial⟩, ⟨rfl, ?_, trivial⟩, ?_, trivial⟩, rfl⟩
          · rw [hmore]; exact (congrArg (SV.osl 4 2 0) (by simp))
          · rw [hmore, its_append]; rfl
        · rw [if_neg (by rw [decide_eq_false (by assumption)]; simp), List.append_nil] at hmore
          refine ⟨k + 1, (show k + 1 ≤ a.length by omega), (show a.length - (k + 1) < a.length - k by omega), ⟨rfl, rfl, rfl, rfl, rfl, trivial⟩, ⟨⟨rfl, rfl, trivial⟩, ⟨rfl, rfl, trivial⟩, ⟨rfl, rfl, trivial⟩, ⟨rfl, ?_, trivial⟩, ?_, trivial⟩, rfl⟩
          · rw [hmore]; exact rfl
          · rw [hmore]; exact rfl
    · have hkn : a.take k = a := List.take_of_length_le (by omega)
      subst ht
      repeat' (conv => whnf); first
        | ((refine Br.beq (by rfl) ?_))
        | ((refine Br.bne (by rfl) ?_))
        | ((refine And.intro (Or.inl (Nat.zero_le _)) ?_))
        | ((refine And.intro (by intro y hy; simp at hy; subst hy; rfl) ?_))
        | (refine Br.tt ?_)
        | (refine Br.ff ?_)
        | (refine Br.dec (fun h => ?_) (fun h => ?_)) <;> try (exfalso; omega)
        | (refine Br.neg ?_)
        | (refine Br.mk (fun h => ?_) (fun h => ?_))
        | (refine And.intro rfl ?_)
        | (refine And.intro (by omega) ?_)
        | (refine ⟨_, Or.inl ⟨⟨by omega, by omega⟩, rfl⟩, ?_⟩)
        | (refine And.intro (by simp only [lens_all, its_len]; first | done | omega) ?_)
        | (refine And.intro (Nat.le_refl _) ?_)
        | fail
      conv => whnf
      rw [frz_its, hkn]
      rfl
  · rw [if_neg hN] at ht
    subst ht
    repeat' (conv => whnf); first
      | ((refine Or.inl ⟨by rfl, _, c1, ?_⟩))
      | ((refine Or.inl ⟨by rfl, _, c2, ?_⟩))
      | ((refine Br.beq (by rfl) ?_))
      | ((refine Br.bne (by rfl) ?_))
      | ((refine And.intro (Or.inl (Nat.zero_le _)) ?_))
      | ((refine And.intro (by intro y hy; simp at hy; subst hy; rfl) ?_))
      | (refine Br.tt ?_)
      | (refine Br.ff ?_)
      | (refine Br.dec (fun h => ?_) (fun h => ?_)) <;> try (exfalso; omega)
      | (refine Br.neg ?_)
      | (refine Br.mk (fun h => ?_) (fun h => ?_))
      | (refine And.intro rfl ?_)
      | (refine And.intro (by omega) ?_)
      | (refine ⟨_, Or.inl ⟨⟨by omega, by omega⟩, rfl⟩, ?_⟩)
      | (refine And.intro (by simp only [lens_all]; first | done | omega) ?_)
      | (refine And.intro (Nat.le_refl _) ?_)
      | fail
    exact ⟨⟨rfl, rfl, trivial⟩, rfl, trivial⟩
end
end Go.Proofs.Ytckbagpdahhiiaa
