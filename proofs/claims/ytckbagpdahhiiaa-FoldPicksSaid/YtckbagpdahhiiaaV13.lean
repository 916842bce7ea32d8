/- Vectors folded: sums, tests, the least. What holds of a vector's values; its least item. The least of what two vectors come to. -/
import Derived.Test.YtckbagpdahhiiaaV12
import Derived.Test.YtckbagpdahhiiaaF3
namespace Go.Proofs.Ytckbagpdahhiiaa
section
open Go.RowKit
attribute [local irreducible] FS FO IT HS

def ir_fold_sure : IR :=
(.seq (.reg (⟨(some 1), .bx (.t 0), none⟩ ::⟨(some 2), .al [.int .i64 0, .nils], none⟩ :: [])) (.seq (.seq (.reg (⟨(some 3), .ld 2 true (.t 1), none⟩ ::⟨(some 4), .call (.c (.fn 103 [])) [(.t 3)], none⟩ :: [])) (.cond (.t 4) (.seq (.reg (⟨(some 5), .ld 2 true (.t 1), none⟩ ::⟨none, .st 2 (.t 2) (.t 5), none⟩ :: [])) .ret) .skip)) (.seq (.reg (⟨(some 6), .bld [.int .i64 0, .nils] [], none⟩ ::⟨none, .st 2 (.t 2) (.t 6), none⟩ :: [])) .ret)))
theorem cd_fold_sure : Code1 Try.prog 79 7 ir_fold_sure [.c 2 true 2] := ⟨Try.call79, _, _, Try.func79, rfl, by kernel_rfl, by kernel_rfl, by kernel_rfl, by kernel_rfl⟩

theorem fs_fsure (n : Int) (l : List (Int × Int)) (hl : l.length ≤ 1000000000) : FS Try.prog 79 [VC n l] (VC (sn n l) (sl n l)) := by
  refine fs_of_cvc mixed cd_fold_sure (by simp) ?_
  have c1 := fs_vRight n l hl
  unfold sn sl
  cases hv : isV n l with
  | true =>
    rw [hv] at c1
    rw [if_pos rfl, if_pos rfl]
    repeat' (conv => whnf); first
      | ((refine Or.inl ⟨by rfl, _, c1, ?_⟩))
      | ((refine Br.beq (by rfl) ?_))
      | ((refine Br.bne (by rfl) ?_))
      | ((refine And.intro (Or.inl (Nat.zero_le _)) ?_))
      | ((refine And.intro (by intro y hy; simp at hy; subst hy; rfl) ?_))
      | (refine Br.tt ?_)
      | (refine Br.ff ?_)
      | (refine Br.dec (fun h => ?_) (fun h => ?_)) <;> try (exfalso; omega)
      | (refine Br.neg ?_)
      | (refine Br.mk (fun h => ?_) (fun h => ?_))
      | (refine And.intro rfl ?_)
      | (refine And.intro (by omega) ?_)
      | (refine ⟨_, Or.inl ⟨⟨by omega, by omega⟩, rfl⟩, ?_⟩)
      | (refine And.intro (by simp only [lens_all]; first | done | omega) ?_)
      | (refine And.intro (Nat.le_refl _) ?_)
      | fail
    exact rfl
  | false =>
    rw [hv] at c1
    rw [if_neg (by simp), if_neg (by simp)]
    repeat' (conv => whnf); first
      | ((refine Or.inl ⟨by rfl, _, c1, ?_⟩))
      | ((refine Br.beq (by rfl) ?_))
      | ((refine Br.bne (by rfl) ?_))
      | ((refine And.intro (Or.inl (Nat.zero_le _)) ?_))
      | ((refine And.intro (by intro y hy; simp at hy; subst hy; rfl) ?_))
      | (refine Br.tt ?_)
      | (refine Br.ff ?_)
      | (refine Br.dec (fun h => ?_) (fun h => ?_)) <;> try (exfalso; omega)
      | (refine Br.neg ?_)
      | (refine Br.mk (fun h => ?_) (fun h => ?_))
      | (refine And.intro rfl ?_)
      | (refine And.intro (by omega) ?_)
      | (refine ⟨_, Or.inl ⟨⟨by omega, by omega⟩, rfl⟩, ?_⟩)
      | (refine And.intro (by simp only [lens_all]; first | done | omega) ?_)
      | (refine And.intro (Nat.le_refl _) ?_)
      | fail
    exact trivial

/-- The sum of all values. -/
def addA (r : Int) (s : Int) (l : List (Int × Int)) : Int := l.foldl (fun s y => rAdd r s y.2) s
def sumV (r : Int) : List (Int × Int) → Int
  | [] => rZero r
  | x :: l => addA r x.2 l
def redR (r n : Int) (l : List (Int × Int)) : Int × Int := if isR r = true then (if fits (sumV r (sl n l)) = true then (nar (sumV r (sl n l)), 0) else (0, 12)) else (0, 8)
theorem addA_w {r s : Int} (hs : W128 s) : ∀ {l : List (Int × Int)}, Ib l → W128 (addA r s l)
  | [], _ => hs
  | x :: l, h => addA_w (rAdd_w hs (W64i (h x (by simp)).2)) fun y hy => h y (by simp [hy])
theorem zero_fits (r : Int) : fits (rZero r) = true ∧ nar (rZero r) = rZero r := by
  unfold rZero
  split <;> exact ⟨by decide, by decide⟩
theorem its_drop1 (x : Int × Int) (l : List (Int × Int)) : (its (x :: l)).drop 1 = its l := rfl

theorem its_go' {l : List (Int × Int)} {x : Int × Int} {q i : Nat} {K : List SV → Prop} (hq : q = i) (hx : l.getD i (0, 0) = x) (h : K [.int .i64 x.1, .int .i64 x.2]) : ∀ y, (its l)[q]? = some y → K y := fun y hy => by rw [its_is hy hq, hx]; exact h

def ir_fold_Reduce : IR :=
(.seq (.reg (⟨(some 3), .bx (.t 1), none⟩ ::⟨(some 4), .mv (.c (.int .i64 0)), none⟩ ::⟨(some 5), .mv (.c (.int .i64 0)), none⟩ :: [])) (.seq (.seq (.reg (⟨(some 12), .mv (.t 0), none⟩ ::⟨(some 13), .call (.c (.fn 55 [])) [(.t 12)], none⟩ ::⟨(some 14), .un .not (.t 13), none⟩ :: [])) (.cond (.t 14) (.seq (.reg (⟨(some 4), .mv (.c (.int .i64 0)), none⟩ ::⟨(some 5), .mv (.c (.int .i64 8)), none⟩ :: [])) .ret) .skip)) (.seq (.reg (⟨(some 15), .ld 2 true (.t 3), none⟩ ::⟨(some 16), .call (.c (.fn 79 [])) [(.t 15)], none⟩ ::⟨(some 17), .fd 1 1 false (.t 16), none⟩ ::⟨(some 6), .mv (.t 17), none⟩ :: [])) (.seq (.seq (.reg (⟨(some 18), .mv (.t 6), none⟩ ::⟨(some 19), .ln (.t 18), none⟩ ::⟨(some 20), .bin .eql (.t 19) (.c (.int .i64 0)), none⟩ :: [])) (.cond (.t 20) (.seq (.reg (⟨(some 21), .mv (.t 0), none⟩ ::⟨(some 22), .call (.c (.fn 80 [])) [(.t 21)], none⟩ ::⟨(some 4), .mv (.t 22), none⟩ ::⟨(some 5), .mv (.c (.int .i64 0)), none⟩ :: [])) .ret) .skip)) (.seq (.reg (⟨(some 23), .mv (.t 6), none⟩ ::⟨(some 24), .ia 2 (.t 23) (.c (.int .i64 0)), none⟩ ::⟨(some 25), .fa 1 (.t 24), none⟩ ::⟨(some 26), .ld 1 false (.t 25), none⟩ ::⟨(some 27), .call (.c (.fn 60 [])) [(.t 26)], none⟩ ::⟨(some 7), .al [.int .i64 0, .int .u64 0], none⟩ ::⟨none, .st 2 (.t 7) (.t 27), none⟩ :: [])) (.seq (.seq (.reg (⟨(some 28), .mv (.t 6), none⟩ ::⟨(some 29), .sl 2 (.t 28) (some (.c (.int .i64 1))) none none, none⟩ ::⟨(some 30), .ln (.t 29), none⟩ ::⟨(some 31), .mv (.c (.int .i64 0)), none⟩ :: [])) (.block 0 (.loop (.seq (.reg (⟨(some 32), .bin .lss (.t 31) (.t 30), none⟩ :: [])) (.seq (.cond (.t 32) .skip (.exit 0)) (.seq (.block 1 (.seq (.reg (⟨(some 33), .ia 2 (.t 29) (.t 31), none⟩ ::⟨(some 34), .ld 2 true (.t 33), none⟩ ::⟨(some 9), .al [.int .i64 0, .int .i64 0], none⟩ ::⟨none, .st 2 (.t 9) (.t 34), none⟩ :: [])) (.draw (⟨(some 35), .mv (.t 0), none⟩ ::⟨(some 36), .ld 2 true (.t 7), none⟩ ::⟨(some 37), .fa 1 (.t 9), none⟩ ::⟨(some 38), .ld 1 false (.t 37), none⟩ ::⟨(some 39), .call (.c (.fn 60 [])) [(.t 38)], none⟩ :: []) (⟨(some 40), .call (.c (.fn 59 [])) [(.t 35), (.t 36), (.t 39)], none⟩ ::⟨none, .st 2 (.t 7) (.t 40), none⟩ :: [])))) (.reg (⟨(some 41), .bin .add (.t 31) (.c (.int .i64 1)), none⟩ ::⟨(some 31), .mv (.t 41), none⟩ :: [])))))))) (.seq (.reg (⟨(some 43), .mv (.t 0), none⟩ ::⟨(some 44), .ld 2 true (.t 7), none⟩ ::⟨(some 45), .call (.c (.fn 81 [])) [(.t 43), (.t 44)], none⟩ ::⟨(some 42), .mv (.t 45), none⟩ ::⟨(some 46), .ex 0 (.t 42), none⟩ ::⟨(some 47), .ex 1 (.t 42), none⟩ ::⟨(some 10), .mv (.t 46), none⟩ ::⟨(some 11), .mv (.t 47), none⟩ :: [])) (.seq (.seq (.reg (⟨(some 48), .mv (.t 11), none⟩ ::⟨(some 49), .un .not (.t 48), none⟩ :: [])) (.cond (.t 49) (.seq (.reg (⟨(some 4), .mv (.c (.int .i64 0)), none⟩ ::⟨(some 5), .mv (.c (.int .i64 12)), none⟩ :: [])) .ret) .skip)) (.seq (.reg (⟨(some 50), .mv (.t 10), none⟩ ::⟨(some 4), .mv (.t 50), none⟩ ::⟨(some 5), .mv (.c (.int .i64 0)), none⟩ :: [])) .ret)))))))))
theorem cd_fold_Reduce : Code1 Try.prog 33 51 ir_fold_Reduce [.t 4, .t 5] := ⟨Try.call33, _, _, Try.func33, rfl, by kernel_rfl, by kernel_rfl, by kernel_rfl, by kernel_rfl⟩

set_option maxHeartbeats 4000000 in
theorem fs_Reduce (r n : Int) (l : List (Int × Int)) (hl : l.length ≤ 400000000) (hb : Ib l) : FS Try.prog 33 [.int .i64 r, VC n l] (.tup [.int .i64 (redR r n l).1, .int .i64 (redR r n l).2]) := by
  refine fs_of_cvc mixed cd_fold_Reduce (by simp) ?_
  have c0 := fs_Is r
  have c1 := fs_fsure n l (by omega)
  have c2 := fs_rZero r
  have s1 := sl_len n l
  have hbs : Ib (sl n l) := hb.sl
  obtain ⟨t, ht⟩ : ∃ t, redR r n l = t := ⟨_, rfl⟩
  rw [ht]
  unfold redR at ht
  generalize sn n l = N1 at *
  generalize sl n l = a at *
  cases hR : isR r with
  | false =>
    rw [hR] at ht c0
    rw [if_neg (by simp)] at ht
    subst ht
    repeat' (conv => whnf); first
      | ((refine Or.inl ⟨by rfl, _, c0, ?_⟩))
      | ((refine Br.beq (by rfl) ?_))
      | ((refine Br.bne (by rfl) ?_))
      | ((refine And.intro (Or.inl (Nat.zero_le _)) ?_))
      | ((refine And.intro (by intro y hy; simp at hy; subst hy; rfl) ?_))
      | (refine Br.tt ?_)
      | (refine Br.ff ?_)
      | (refine Br.dec (fun h => ?_) (fun h => ?_)) <;> try (exfalso; omega)
      | (refine Br.neg ?_)
      | (refine Br.mk (fun h => ?_) (fun h => ?_))
      | (refine And.intro rfl ?_)
      | (refine And.intro (by omega) ?_)
      | (refine ⟨_, Or.inl ⟨⟨by omega, by omega⟩, rfl⟩, ?_⟩)
      | (refine And.intro (by simp only [lens_all, its_len, eds_len, wds_len]; first | done | omega) ?_)
      | (refine And.intro (Nat.le_refl _) ?_)
      | fail
    exact rfl
  | true =>
    rw [hR] at ht c0
    rw [if_pos rfl] at ht
    cases a with
    | nil =>
      have hz := zero_fits r
      have ht' : (rZero r, (0 : Int)) = t := by
        rw [← ht]
        show _ = if fits (rZero r) = true then (nar (rZero r), 0) else (0, 12)
        rw [if_pos hz.1, hz.2]
      subst ht'
      repeat' (conv => whnf); first
        | ((refine Or.inl ⟨by rfl, _, c0, ?_⟩))
        | ((refine Or.inl ⟨by rfl, _, c1, ?_⟩))
        | ((refine Or.inl ⟨by rfl, _, c2, ?_⟩))
        | ((refine Br.beq (by rfl) ?_))
        | ((refine Br.bne (by rfl) ?_))
        | ((refine And.intro (Or.inl (Nat.zero_le _)) ?_))
        | ((refine And.intro (by intro y hy; simp at hy; subst hy; rfl) ?_))
        | (refine Br.tt ?_)
        | (refine Br.ff ?_)
        | (refine Br.dec (fun h => ?_) (fun h => ?_)) <;> try (exfalso; omega)
        | (refine Br.neg ?_)
        | (refine Br.mk (fun h => ?_) (fun h => ?_))
        | (refine And.intro rfl ?_)
        | (refine And.intro (by omega) ?_)
        | (refine ⟨_, Or.inl ⟨⟨by omega, by omega⟩, rfl⟩, ?_⟩)
        | (refine And.intro (by simp only [lens_all]; first | done | omega) ?_)
        | (refine And.intro (Nat.le_refl _) ?_)
        | fail
      exact rfl
    | cons x a =>
      have hil := its_len a
      have hxl : (x :: a).length = a.length + 1 := rfl
      have hi0 := (hbs x (by simp)).2
      have hbs : Ib a := fun y hy => hbs y (by simp [hy])
      have c3 := fs_wOf x.2 hi0
      repeat' (conv => whnf); first
        | ((refine Or.inl ⟨by rfl, _, c0, ?_⟩))
        | ((refine Or.inl ⟨by rfl, _, c1, ?_⟩))
        | ((refine Or.inl ⟨by rfl, _, c2, ?_⟩))
        | ((refine Or.inl ⟨by rfl, _, c3, ?_⟩))
        | ((refine fun y hy => ?_); (obtain rfl := Option.some.inj (show some _ = some _ from hy); clear hy))
        | ((refine Br.beq (by rfl) ?_))
        | ((refine Br.bne (by rfl) ?_))
        | ((refine And.intro (Or.inl (Nat.zero_le _)) ?_))
        | ((refine And.intro (by intro y hy; simp at hy; subst hy; rfl) ?_))
        | (refine Br.tt ?_)
        | (refine Br.ff ?_)
        | (refine Br.dec (fun h => ?_) (fun h => ?_)) <;> try (exfalso; omega)
        | (refine Br.neg ?_)
        | (refine Br.mk (fun h => ?_) (fun h => ?_))
        | (refine And.intro rfl ?_)
        | (refine And.intro (by omega) ?_)
        | (refine ⟨_, Or.inl ⟨⟨by omega, by omega⟩, rfl⟩, ?_⟩)
        | (refine And.intro (by simp only [lens_all, its_len]; first | done | omega) ?_)
        | (refine And.intro (Nat.le_refl _) ?_)
        | fail
      have hsl : (its (x :: a)).take (((its (x :: a)).length : Nat) : Int).toNat = its (x :: a) := by rw [Int.toNat_natCast, List.take_length]
      refine ⟨Nat, fun k => k ≤ a.length, fun k => [(0, .int .i64 r), (7, .ptr 1 0 0 0), (29, .slc 2 (its a)), (30, .int .i64 (a.length : Int)), (31, .int .i64 (k : Int))], fun k => [.vars [.int .i64 n, IL l], .vars [.int .i64 (hi (addA r x.2 (a.take k))), .int .u64 (lo (addA r x.2 (a.take k)))]], fun _ => none, fun k => a.length - k,
        ⟨0, Nat.zero_le _, ⟨rfl, rfl, ?_, ?_, rfl, trivial⟩, ⟨⟨rfl, rfl, trivial⟩, ⟨rfl, rfl, trivial⟩, trivial⟩, rfl⟩, fun k hk => ?_⟩
      · show SV.slc 2 (((its (x :: a)).take (((its (x :: a)).length : Nat) : Int).toNat).drop 1) = _
        rw [hsl]; rfl
      · show SV.int .i64 ((((its (x :: a)).take (((its (x :: a)).length : Nat) : Int).toNat).drop 1).length : Nat) = _
        rw [hsl, its_drop1, hil]
      have hk : k ≤ a.length := hk
      have hw := addA_w (r := r) (W64i hi0) (l := a.take k) fun y hy => hbs y (List.mem_of_mem_take hy)
      by_cases hka : k < a.length
      · obtain ⟨y, hy⟩ : ∃ y, a.getD k (0, 0) = y := ⟨_, rfl⟩
        have hym : y ∈ a := by rw [← hy]; simp [hka]
        have c4 := fs_wOf y.2 (hbs y hym).2
        have c5 := fs_rAdd r _ y.2 hw (W64i (hbs y hym).2)
        have hst : addA r x.2 (a.take (k + 1)) = rAdd r (addA r x.2 (a.take k)) y.2 := by
          unfold addA
          rw [vtake_more hka, List.foldl_append, hy]; rfl
        repeat' (conv => whnf); first
          | ((refine its_go' (i := k) (by omega) hy ?_))
          | ((refine Or.inl ⟨by rfl, _, c4, ?_⟩))
          | ((refine Or.inl ⟨by rfl, _, c5, ?_⟩))
          | ((refine Br.beq (by rfl) ?_))
          | ((refine Br.bne (by rfl) ?_))
          | ((refine And.intro (Or.inl (Nat.zero_le _)) ?_))
          | ((refine And.intro (by intro y hy; simp at hy; subst hy; rfl) ?_))
          | (refine Br.tt ?_)
          | (refine Br.ff ?_)
          | (refine Br.dec (fun h => ?_) (fun h => ?_)) <;> try (exfalso; omega)
          | (refine Br.neg ?_)
          | (refine Br.mk (fun h => ?_) (fun h => ?_))
          | (refine And.intro rfl ?_)
          | (refine And.intro (by omega) ?_)
          | (refine ⟨_, Or.inl ⟨⟨by omega, by omega⟩, rfl⟩, ?_⟩)
          | (refine And.intro (by simp only [lens_all]; first | done | omega) ?_)
          | (refine And.intro (Nat.le_refl _) ?_)
          | fail
        refine ⟨k + 1, (show k + 1 ≤ a.length by omega), (show a.length - (k + 1) < a.length - k by omega), ⟨rfl, rfl, rfl, rfl, rfl, trivial⟩, ⟨⟨rfl, rfl, trivial⟩, ?_, ⟨Nat.le_refl _, rfl, rfl⟩⟩, rfl⟩
        rw [hst]
        exact ⟨rfl, rfl, trivial⟩
      · obtain rfl : k = a.length := by omega
        rw [List.take_length] at hw
        have c6 := fs_rNarrow r _ hw
        have hta : addA r x.2 (a.take a.length) = addA r x.2 a := by rw [List.take_length]
        have ht : (if fits (addA r x.2 a) = true then (nar (addA r x.2 a), 0) else (0, 12)) = t := ht
        rw [← hta] at c6 ht
        cases hf : fits (addA r x.2 (a.take a.length)) with
        | true =>
          rw [hf] at ht c6
          rw [if_pos rfl] at ht
          subst ht
          repeat' (conv => whnf); first
            | ((refine Or.inl ⟨by rfl, _, c6, ?_⟩))
            | ((refine Br.beq (by rfl) ?_))
            | ((refine Br.bne (by rfl) ?_))
            | ((refine And.intro (Or.inl (Nat.zero_le _)) ?_))
            | ((refine And.intro (by intro y hy; simp at hy; subst hy; rfl) ?_))
            | (refine Br.tt ?_)
            | (refine Br.ff ?_)
            | (refine Br.dec (fun h => ?_) (fun h => ?_)) <;> try (exfalso; omega)
            | (refine Br.neg ?_)
            | (refine Br.mk (fun h => ?_) (fun h => ?_))
            | (refine And.intro rfl ?_)
            | (refine And.intro (by omega) ?_)
            | (refine ⟨_, Or.inl ⟨⟨by omega, by omega⟩, rfl⟩, ?_⟩)
            | (refine And.intro (by simp only [lens_all]; first | done | omega) ?_)
            | (refine And.intro (Nat.le_refl _) ?_)
            | fail
          exact rfl
        | false =>
          rw [hf] at ht c6
          rw [if_neg (by simp)] at ht
          subst ht
          repeat' (conv => whnf); first
            | ((refine Or.inl ⟨by rfl, _, c6, ?_⟩))
            | ((refine Br.beq (by rfl) ?_))
            | ((refine Br.bne (by rfl) ?_))
            | ((refine And.intro (Or.inl (Nat.zero_le _)) ?_))
            | ((refine And.intro (by intro y hy; simp at hy; subst hy; rfl) ?_))
            | (refine Br.tt ?_)
            | (refine Br.ff ?_)
            | (refine Br.dec (fun h => ?_) (fun h => ?_)) <;> try (exfalso; omega)
            | (refine Br.neg ?_)
            | (refine Br.mk (fun h => ?_) (fun h => ?_))
            | (refine And.intro rfl ?_)
            | (refine And.intro (by omega) ?_)
            | (refine ⟨_, Or.inl ⟨⟨by omega, by omega⟩, rfl⟩, ?_⟩)
            | (refine And.intro (by simp only [lens_all]; first | done | omega) ?_)
            | (refine And.intro (Nat.le_refl _) ?_)
            | fail
          exact rfl
end
section
open Go.RowKit
attribute [local irreducible] FS FO IT HS

/-- Whether a value holds against a number. -/
def hold (t v k : Int) : Bool := if t = 1 then decide (v < k) else if t = 2 then decide (k < v) else if t = 3 then decide (v = k) else if t = 4 then decide (v ≠ k) else false

def ir_fold_Holds : IR :=
(.seq (.reg (⟨(some 6), .mv (.c (.bool false)), none⟩ :: [])) (.seq (.seq (.reg (⟨(some 7), .mv (.t 0), none⟩ :: [])) (.block 0 (.seq (.block 4 (.seq (.block 3 (.seq (.block 2 (.seq (.block 1 (.seq (.seq (.seq (.reg (⟨(some 9), .bin .eql (.t 7) (.c (.int .i64 2)), none⟩ ::⟨(some 8), .mv (.t 9), none⟩ :: [])) (.cond (.t 8) (.exit 1) .skip)) (.seq (.seq (.reg (⟨(some 11), .bin .eql (.t 7) (.c (.int .i64 1)), none⟩ ::⟨(some 10), .mv (.t 11), none⟩ :: [])) (.cond (.t 10) (.exit 2) .skip)) (.seq (.seq (.reg (⟨(some 13), .bin .eql (.t 7) (.c (.int .i64 3)), none⟩ ::⟨(some 12), .mv (.t 13), none⟩ :: [])) (.cond (.t 12) (.exit 3) .skip)) (.seq (.reg (⟨(some 15), .bin .eql (.t 7) (.c (.int .i64 4)), none⟩ ::⟨(some 14), .mv (.t 15), none⟩ :: [])) (.cond (.t 14) (.exit 4) .skip))))) (.exit 0))) (.reg (⟨(some 16), .mv (.t 2), none⟩ ::⟨(some 17), .mv (.t 1), none⟩ ::⟨(some 1), .mv (.t 16), none⟩ ::⟨(some 2), .mv (.t 17), none⟩ :: [])))) (.seq (.seq (.reg (⟨(some 18), .mv (.t 1), none⟩ ::⟨(some 19), .mv (.t 2), none⟩ ::⟨(some 20), .bin .lss (.t 18) (.t 19), none⟩ ::⟨(some 6), .mv (.t 20), none⟩ :: [])) .ret) (.exit 0)))) (.seq (.seq (.reg (⟨(some 21), .mv (.t 1), none⟩ ::⟨(some 22), .mv (.t 2), none⟩ ::⟨(some 23), .bin .eql (.t 21) (.t 22), none⟩ ::⟨(some 6), .mv (.t 23), none⟩ :: [])) .ret) (.exit 0)))) (.seq (.seq (.reg (⟨(some 24), .mv (.t 1), none⟩ ::⟨(some 25), .mv (.t 2), none⟩ ::⟨(some 26), .bin .neq (.t 24) (.t 25), none⟩ ::⟨(some 6), .mv (.t 26), none⟩ :: [])) .ret) (.exit 0))))) (.seq (.reg (⟨(some 6), .mv (.c (.bool false)), none⟩ :: [])) .ret)))
theorem cd_fold_Holds : Code1 Try.prog 38 27 ir_fold_Holds [.t 6] := ⟨Try.call38, _, _, Try.func38, rfl, by kernel_rfl, by kernel_rfl, by kernel_rfl, by kernel_rfl⟩

theorem fs_Holds (t v k : Int) : FS Try.prog 38 [.int .i64 t, .int .i64 v, .int .i64 k] (.bool (hold t v k)) := by
  refine fs_of_cvc mixed cd_fold_Holds (by simp) ?_
  repeat' (conv => whnf); first
    | ((refine Br.beq (by rfl) ?_))
    | ((refine Br.bne (by rfl) ?_))
    | ((refine And.intro (Or.inl (Nat.zero_le _)) ?_))
    | ((refine And.intro (by intro y hy; simp at hy; subst hy; rfl) ?_))
    | (refine Br.tt ?_)
    | (refine Br.ff ?_)
    | (refine Br.dec (fun h => ?_) (fun h => ?_)) <;> try (exfalso; omega)
    | (refine Br.neg ?_)
    | (refine Br.mk (fun h => ?_) (fun h => ?_))
    | (refine And.intro rfl ?_)
    | (refine And.intro (by omega) ?_)
    | (refine ⟨_, Or.inl ⟨⟨by omega, by omega⟩, rfl⟩, ?_⟩)
    | (refine And.intro (by simp only [lens_all, its_len, eds_len, wds_len]; first | done | omega) ?_)
    | (refine And.intro (Nat.le_refl _) ?_)
    | fail
  all_goals
    show SV.bool _ = SV.bool _
    subst_vars
    unfold hold
    simp [*]

def ir_fold_Where : IR :=
(.seq (.reg (⟨(some 3), .bx (.t 0), none⟩ ::⟨(some 6), .al [.int .i64 0, .nils], none⟩ :: [])) (.seq (.reg (⟨(some 10), .ld 2 true (.t 3), none⟩ ::⟨(some 11), .call (.c (.fn 79 [])) [(.t 10)], none⟩ ::⟨none, .st 2 (.t 3) (.t 11), none⟩ :: [])) (.seq (.reg (⟨(some 12), .fa 0 (.t 3), none⟩ ::⟨(some 13), .ld 1 false (.t 12), none⟩ ::⟨(some 14), .bld [.int .i64 0, .nils] [(0, 1, (.t 13))], none⟩ ::⟨(some 7), .al [.int .i64 0, .nils], none⟩ ::⟨none, .st 2 (.t 7) (.t 14), none⟩ :: [])) (.seq .skip (.seq (.seq (.reg (⟨(some 15), .fa 1 (.t 3), none⟩ ::⟨(some 16), .ld 1 false (.t 15), none⟩ ::⟨(some 17), .ln (.t 16), none⟩ ::⟨(some 18), .mv (.c (.int .i64 0)), none⟩ :: [])) (.block 0 (.loop (.seq (.reg (⟨(some 19), .bin .lss (.t 18) (.t 17), none⟩ :: [])) (.seq (.cond (.t 19) .skip (.exit 0)) (.seq (.block 1 (.seq (.reg (⟨(some 20), .ia 2 (.t 16) (.t 18), none⟩ ::⟨(some 21), .ld 2 true (.t 20), none⟩ ::⟨(some 9), .al [.int .i64 0, .int .i64 0], none⟩ ::⟨none, .st 2 (.t 9) (.t 21), none⟩ :: [])) (.seq (.seq (.reg (⟨(some 22), .mv (.t 1), none⟩ ::⟨(some 23), .fa 1 (.t 9), none⟩ ::⟨(some 24), .ld 1 false (.t 23), none⟩ ::⟨(some 25), .mv (.t 2), none⟩ ::⟨(some 26), .call (.c (.fn 38 [])) [(.t 22), (.t 24), (.t 25)], none⟩ ::⟨(some 27), .un .not (.t 26), none⟩ :: [])) (.cond (.t 27) (.exit 1) .skip)) (.reg (⟨(some 28), .fa 1 (.t 7), none⟩ ::⟨(some 29), .ld 1 false (.t 28), none⟩ ::⟨(some 30), .ld 2 true (.t 9), none⟩ ::⟨(some 31), .bsl 1 2 [.int .i64 0, .int .i64 0] [(0, (.t 30))], none⟩ ::⟨(some 32), .ap 2 16 (.t 29) (.t 31), none⟩ ::⟨(some 33), .fa 1 (.t 7), none⟩ ::⟨none, .st 1 (.t 33) (.t 32), none⟩ :: []))))) (.reg (⟨(some 34), .bin .add (.t 18) (.c (.int .i64 1)), none⟩ ::⟨(some 18), .mv (.t 34), none⟩ :: [])))))))) (.seq (.reg (⟨(some 35), .ld 2 true (.t 7), none⟩ ::⟨none, .st 2 (.t 6) (.t 35), none⟩ :: [])) .ret))))))
theorem cd_fold_Where : Code1 Try.prog 40 36 ir_fold_Where [.c 2 true 6] := ⟨Try.call40, _, _, Try.func40, rfl, by kernel_rfl, by kernel_rfl, by kernel_rfl, by kernel_rfl⟩

set_option maxHeartbeats 4000000 in
theorem fs_Where (n : Int) (l : List (Int × Int)) (t k : Int) (hl : l.length ≤ 400000000) : FS Try.prog 40 [VC n l, .int .i64 t, .int .i64 k] (VC (sn n l) ((sl n l).filter fun x => hold t x.2 k)) := by
  refine fs_of_cvc mixed cd_fold_Where (by simp) ?_
  have c1 := fs_fsure n l (by omega)
  have s1 := sl_len n l
  generalize sn n l = N1 at *
  generalize sl n l = a at *
  have hal := its_len a
  repeat' (conv => whnf); first
    | ((refine Or.inl ⟨by rfl, _, c1, ?_⟩))
    | ((refine Br.beq (by rfl) ?_))
    | ((refine Br.bne (by rfl) ?_))
    | ((refine And.intro (Or.inl (Nat.zero_le _)) ?_))
    | ((refine And.intro (by intro y hy; simp at hy; subst hy; rfl) ?_))
    | (refine Br.tt ?_)
    | (refine Br.ff ?_)
    | (refine Br.dec (fun h => ?_) (fun h => ?_)) <;> try (exfalso; omega)
    | (refine Br.neg ?_)
    | (refine Br.mk (fun h => ?_) (fun h => ?_))
    | (refine And.intro rfl ?_)
    | (refine And.intro (by omega) ?_)
    | (refine ⟨_, Or.inl ⟨⟨by omega, by omega⟩, rfl⟩, ?_⟩)
    | (refine And.intro (by simp only [lens_all]; first | done | omega) ?_)
    | (refine And.intro (Nat.le_refl _) ?_)
    | fail
  refine ⟨Nat, fun j => j ≤ a.length, fun j => [(1, .int .i64 t), (2, .int .i64 k), (6, .ptr 1 0 0 0), (7, .ptr 2 0 0 0), (16, IL a), (17, .int .i64 (a.length : Int)), (18, .int .i64 (j : Int))], fun j => [.vars [.int .i64 N1, IL a], .vars [.int .i64 0, .nils], .vars [.int .i64 N1, .osl 3 2 0 ((a.take j).filter fun x => hold t x.2 k).length], .arr 2 (its ((a.take j).filter fun x => hold t x.2 k))], fun _ => none, fun j => a.length - j,
    ⟨0, Nat.zero_le _, ⟨rfl, rfl, rfl, rfl, rfl, ?_, rfl, trivial⟩, ⟨⟨rfl, rfl, trivial⟩, ⟨rfl, rfl, trivial⟩, ⟨rfl, ⟨Nat.le_refl _, rfl, rfl⟩, trivial⟩, rfl, trivial⟩, rfl⟩, fun j hj => ?_⟩
  · exact congrArg (SV.int .i64) (congrArg Int.ofNat hal)
  have hj : j ≤ a.length := hj
  by_cases hja : j < a.length
  · obtain ⟨x, hx⟩ : ∃ x, a.getD j (0, 0) = x := ⟨_, rfl⟩
    have hst : (a.take (j + 1)).filter (fun x => hold t x.2 k) = (a.take j).filter (fun x => hold t x.2 k) ++ if hold t x.2 k = true then [x] else [] := by
      rw [vtake_more hja, hx, List.filter_append, List.filter_cons, List.filter_nil]
    have c2 := fs_Holds t x.2 k
    have hfl := List.length_filter_le (fun (x : Int × Int) => hold t x.2 k) (a.take j)
    have htl : (a.take j).length ≤ a.length := by simp; omega
    obtain ⟨b, hb⟩ : ∃ b, hold t x.2 k = b := ⟨_, rfl⟩
    rw [hb] at c2 hst
    cases b
    · rw [if_neg (by simp), List.append_nil] at hst
      repeat' (conv => whnf); first
        | ((refine its_go' (i := j) (by omega) hx ?_))
        | ((refine Or.inl ⟨by rfl, _, c2, ?_⟩))
        | ((refine Br.beq (by rfl) ?_))
        | ((refine Br.bne (by rfl) ?_))
        | ((refine And.intro (Or.inl (Nat.zero_le _)) ?_))
        | ((refine And.intro (by intro y hy; simp at hy; subst hy; rfl) ?_))
        | (refine Br.tt ?_)
        | (refine Br.ff ?_)
        | (refine Br.dec (fun h => ?_) (fun h => ?_)) <;> try (exfalso; omega)
        | (refine Br.neg ?_)
        | (refine Br.mk (fun h => ?_) (fun h => ?_))
        | (refine And.intro rfl ?_)
        | (refine And.intro (by omega) ?_)
        | (refine ⟨_, Or.inl ⟨⟨by omega, by omega⟩, rfl⟩, ?_⟩)
        | (refine And.intro (by simp only [lens_all]; first | done | omega) ?_)
        | (refine And.intro (Nat.le_refl _) ?_)
        | fail
      refine ⟨j + 1, (show j + 1 ≤ a.length by omega), (show a.length - (j + 1) < a.length - j by omega), ⟨rfl, rfl, rfl, rfl, rfl, rfl, rfl, trivial⟩, ⟨⟨rfl, rfl, trivial⟩, ⟨rfl, rfl, trivial⟩, ⟨rfl, ?_, trivial⟩, ?_, ⟨Nat.le_of_ble_eq_true rfl, rfl, rfl⟩⟩, rfl⟩
      · rw [hst]; exact rfl
      · rw [hst]; exact rfl
    · rw [if_pos rfl] at hst
      repeat' (conv => whnf); first
        | ((refine its_go' (i := j) (by omega) hx ?_))
        | ((refine Or.inl ⟨by rfl, _, c2, ?_⟩))
        | ((refine Br.beq (by rfl) ?_))
        | ((refine Br.bne (by rfl) ?_))
        | ((refine And.intro (Or.inl (Nat.zero_le _)) ?_))
        | ((refine And.intro (by intro y hy; simp at hy; subst hy; rfl) ?_))
        | (refine Br.tt ?_)
        | (refine Br.ff ?_)
        | (refine Br.dec (fun h => ?_) (fun h => ?_)) <;> try (exfalso; omega)
        | (refine Br.neg ?_)
        | (refine Br.mk (fun h => ?_) (fun h => ?_))
        | (refine And.intro rfl ?_)
        | (refine And.intro (by omega) ?_)
        | (refine ⟨_, Or.inl ⟨⟨by omega, by omega⟩, rfl⟩, ?_⟩)
        | (refine And.intro (by simp only [lens_all, its_len]; first | done | omega) ?_)
        | (refine And.intro (Nat.le_refl _) ?_)
        | fail
      refine ⟨j + 1, (show j + 1 ≤ a.length by omega), (show a.length - (j + 1) < a.length - j by omega), ⟨rfl, rfl, rfl, rfl, rfl, rfl, rfl, trivial⟩, ⟨⟨rfl, rfl, trivial⟩, ⟨rfl, rfl, trivial⟩, ⟨rfl, ?_, trivial⟩, ?_, ⟨Nat.le_of_ble_eq_true rfl, rfl, rfl⟩⟩, rfl⟩
      · refine congrArg (SV.osl 3 2 0) ?_
        rw [hst]; simp
      · refine congrArg (Blk.arr 2) ?_
        rw [hst, its_append]; rfl
  · obtain rfl : j = a.length := by omega
    repeat' (conv => whnf); first
      | ((refine Br.beq (by rfl) ?_))
      | ((refine Br.bne (by rfl) ?_))
      | ((refine And.intro (Or.inl (Nat.zero_le _)) ?_))
      | ((refine And.intro (by intro y hy; simp at hy; subst hy; rfl) ?_))
      | (refine Br.tt ?_)
      | (refine Br.ff ?_)
      | (refine Br.dec (fun h => ?_) (fun h => ?_)) <;> try (exfalso; omega)
      | (refine Br.neg ?_)
      | (refine Br.mk (fun h => ?_) (fun h => ?_))
      | (refine And.intro rfl ?_)
      | (refine And.intro (by omega) ?_)
      | (refine ⟨_, Or.inl ⟨⟨by omega, by omega⟩, rfl⟩, ?_⟩)
      | (refine And.intro (by simp only [lens_all, its_len]; first | done | omega) ?_)
      | (refine And.intro (Nat.le_refl _) ?_)
      | fail
    conv => whnf
    have e1 : a.take a.length = a := List.take_length
    rw [frz_its, e1]
    rfl

/-- The operations of a code, in the order of its text; the k-th of a function. -/
def opsOf : Code → List Oper
  | .region _ ops _ => ops.toList
  | .seq a b => opsOf a ++ opsOf b
  | .cond _ a b => opsOf a ++ opsOf b
  | .block _ a => opsOf a
  | .loop a => opsOf a
  | .scope a => opsOf a
  | .rangeFunc _ _ a b => opsOf a ++ opsOf b
  | _ => []
def opAt (f : Func) (k : Nat) : Oper := match f.body with
  | some c => match (opsOf c)[k]? with
    | some o => o
    | none => ⟨none, .panic (.tmp 0), 0, "", #[], none⟩
  | none => ⟨none, .panic (.tmp 0), 0, "", #[], none⟩

/-- The least item. -/
def mnI (x y : Int × Int) : Int × Int := if y.2 < x.2 then y else x
def minI : List (Int × Int) → Int × Int
  | [] => (0, 0)
  | x :: l => l.foldl mnI x

def ir_fold_Least_1 : IR :=
(.seq (.reg (⟨(some 2), .bx (.t 0), none⟩ ::⟨(some 3), .bx (.t 1), none⟩ ::⟨(some 4), .mv (.c (.int .i64 0)), none⟩ :: [])) (.seq (.reg (⟨(some 5), .fa 1 (.t 2), none⟩ ::⟨(some 6), .ld 1 false (.t 5), none⟩ ::⟨(some 7), .fa 1 (.t 3), none⟩ ::⟨(some 8), .ld 1 false (.t 7), none⟩ ::⟨(some 9), .call (.c (.fn 85 [])) [(.t 6), (.t 8)], none⟩ ::⟨(some 4), .mv (.t 9), none⟩ :: [])) .ret))
theorem cd_fold_Least_1 : Code1 Try.prog 84 10 ir_fold_Least_1 [.t 4] := ⟨Try.call84, _, _, Try.func84, rfl, by kernel_rfl, by kernel_rfl, by kernel_rfl, by kernel_rfl⟩

theorem fs_Least1 (a b c d : Int) : FS Try.prog 84 [.agg [.int .i64 a, .int .i64 b], .agg [.int .i64 c, .int .i64 d]] (.int .i64 (sgn3 b d)) := by
  refine fs_of_cvc mixed cd_fold_Least_1 (by simp) ?_
  have c1 := fs_cmp_i b d
  repeat' (conv => whnf); first
    | ((refine Or.inl ⟨by rfl, _, c1, ?_⟩))
    | ((refine Br.beq (by rfl) ?_))
    | ((refine Br.bne (by rfl) ?_))
    | ((refine And.intro (Or.inl (Nat.zero_le _)) ?_))
    | ((refine And.intro (by intro y hy; simp at hy; subst hy; rfl) ?_))
    | (refine Br.tt ?_)
    | (refine Br.ff ?_)
    | (refine Br.dec (fun h => ?_) (fun h => ?_)) <;> try (exfalso; omega)
    | (refine Br.neg ?_)
    | (refine Br.mk (fun h => ?_) (fun h => ?_))
    | (refine And.intro rfl ?_)
    | (refine And.intro (by omega) ?_)
    | (refine ⟨_, Or.inl ⟨⟨by omega, by omega⟩, rfl⟩, ?_⟩)
    | (refine And.intro (by simp only [lens_all, its_len, eds_len, wds_len]; first | done | omega) ?_)
    | (refine And.intro (Nat.le_refl _) ?_)
    | fail
  exact rfl

noncomputable def ir_slices_MinFunc_api_Item_api_Item : IR :=
(.seq (.reg (⟨(some 4), .al [.int .i64 0, .int .i64 0], none⟩ :: [])) (.seq (.seq (.reg (⟨(some 7), .mv (.t 0), none⟩ ::⟨(some 8), .ln (.t 7), none⟩ ::⟨(some 9), .bin .lss (.t 8) (.c (.int .i64 1)), none⟩ :: [])) (.cond (.t 9) (.reg (⟨(some 10), .oth (opAt Try.f83 4), none⟩ ::⟨none, .oth (opAt Try.f83 5), none⟩ :: [])) .skip)) (.seq (.reg (⟨(some 11), .mv (.t 0), none⟩ ::⟨(some 12), .ia 2 (.t 11) (.c (.int .i64 0)), none⟩ ::⟨(some 13), .ld 2 true (.t 12), none⟩ ::⟨(some 5), .al [.int .i64 0, .int .i64 0], none⟩ ::⟨none, .st 2 (.t 5) (.t 13), none⟩ :: [])) (.seq (.seq (.reg (⟨(some 6), .mv (.c (.int .i64 1)), none⟩ :: [])) (.block 0 (.loop (.seq (.seq (.reg (⟨(some 14), .mv (.t 6), none⟩ ::⟨(some 15), .mv (.t 0), none⟩ ::⟨(some 16), .ln (.t 15), none⟩ ::⟨(some 17), .bin .lss (.t 14) (.t 16), none⟩ :: [])) (.cond (.t 17) .skip (.exit 0))) (.seq (.block 1 (.seq (.draw (⟨(some 20), .mv (.t 1), none⟩ ::⟨(some 21), .mv (.t 0), none⟩ ::⟨(some 22), .mv (.t 6), none⟩ ::⟨(some 23), .ia 2 (.t 21) (.t 22), none⟩ ::⟨(some 24), .ld 2 true (.t 23), none⟩ ::⟨(some 25), .ld 2 true (.t 5), none⟩ :: []) (⟨(some 26), .call (.t 20) [(.t 24), (.t 25)], none⟩ ::⟨(some 27), .bin .lss (.t 26) (.c (.int .i64 0)), none⟩ :: [])) (.cond (.t 27) (.reg (⟨(some 28), .mv (.t 0), none⟩ ::⟨(some 29), .mv (.t 6), none⟩ ::⟨(some 30), .ia 2 (.t 28) (.t 29), none⟩ ::⟨(some 31), .ld 2 true (.t 30), none⟩ ::⟨none, .st 2 (.t 5) (.t 31), none⟩ :: [])) .skip))) (.reg (⟨(some 18), .mv (.t 6), none⟩ ::⟨(some 19), .bin .add (.t 18) (.c (.int .i64 1)), none⟩ ::⟨(some 6), .mv (.t 19), none⟩ :: []))))))) (.seq (.reg (⟨(some 32), .ld 2 true (.t 5), none⟩ ::⟨none, .st 2 (.t 4) (.t 32), none⟩ :: [])) .ret)))))
theorem cd_slices_MinFunc_api_Item_api_Item : Code1 Try.prog 83 33 ir_slices_MinFunc_api_Item_api_Item [.c 2 true 4] := ⟨Try.call83, _, _, Try.func83, rfl, by kernel_rfl, by kernel_rfl, by kernel_rfl, by kernel_rfl⟩

set_option maxHeartbeats 4000000 in
theorem fs_MinFn (l : List (Int × Int)) (h0 : 0 < l.length) (hl : l.length ≤ 400000000) : FS Try.prog 83 [IL l, .fn 84 []] (.agg [.int .i64 (minI l).1, .int .i64 (minI l).2]) := by
  refine fs_of_cvc mixed cd_slices_MinFunc_api_Item_api_Item (by simp) ?_
  have hal := its_len l
  repeat' (conv => whnf); first
    | ((refine its_go (i := 0) (by omega) ?_))
    | ((refine Br.beq (by rfl) ?_))
    | ((refine Br.bne (by rfl) ?_))
    | ((refine And.intro (Or.inl (Nat.zero_le _)) ?_))
    | ((refine And.intro (by intro y hy; simp at hy; subst hy; rfl) ?_))
    | (refine Br.tt ?_)
    | (refine Br.ff ?_)
    | (refine Br.dec (fun h => ?_) (fun h => ?_)) <;> try (exfalso; omega)
    | (refine Br.neg ?_)
    | (refine Br.mk (fun h => ?_) (fun h => ?_))
    | (refine And.intro rfl ?_)
    | (refine And.intro (by omega) ?_)
    | (refine ⟨_, Or.inl ⟨⟨by omega, by omega⟩, rfl⟩, ?_⟩)
    | (refine And.intro (by simp only [lens_all]; first | done | omega) ?_)
    | (refine And.intro (Nat.le_refl _) ?_)
    | fail
  obtain ⟨x0, hx0⟩ : ∃ x, l.getD 0 (0, 0) = x := ⟨_, rfl⟩
  have h1 : minI (l.take 1) = l.getD 0 (0, 0) := by
    cases l with
    | nil => simp at h0
    | cons x l => rfl
  refine ⟨Nat, fun k => 1 ≤ k ∧ k ≤ l.length, fun k => [(0, IL l), (1, .fn 84 []), (4, .ptr 0 0 0 0), (5, .ptr 1 0 0 0), (6, .int .i64 (k : Int))], fun k => [.vars [.int .i64 0, .int .i64 0], .vars [.int .i64 (minI (l.take k)).1, .int .i64 (minI (l.take k)).2]], fun _ => none, fun k => l.length - k,
    ⟨1, ⟨Nat.le_refl _, by omega⟩, ⟨rfl, rfl, rfl, rfl, rfl, trivial⟩, ⟨⟨rfl, rfl, trivial⟩, ?_, trivial⟩, rfl⟩, fun k hk => ?_⟩
  · rw [h1]; exact ⟨rfl, rfl, trivial⟩
  obtain ⟨hk1, hk2⟩ := hk
  by_cases hkl : k < l.length
  · obtain ⟨x, hx⟩ : ∃ x, l.getD k (0, 0) = x := ⟨_, rfl⟩
    have hst : minI (l.take (k + 1)) = mnI (minI (l.take k)) x := by
      rw [vtake_more hkl, hx]
      cases l with
      | nil => simp at h0
      | cons y l =>
        obtain ⟨j, rfl⟩ : ∃ j, k = j + 1 := ⟨k - 1, by omega⟩
        rw [List.take_succ_cons]
        show (l.take j ++ [x]).foldl mnI y = mnI ((l.take j).foldl mnI y) x
        rw [List.foldl_append]; rfl
    have c1 := fs_Least1 x.1 x.2 (minI (l.take k)).1 (minI (l.take k)).2
    by_cases hlt : x.2 < (minI (l.take k)).2
    · rw [show sgn3 x.2 (minI (l.take k)).2 = -1 by unfold sgn3; rw [if_pos hlt]] at c1
      have hm : mnI (minI (l.take k)) x = x := if_pos hlt
      rw [hm] at hst
      repeat' (conv => whnf); first
        | ((refine its_go' (i := k) (by omega) hx ?_))
        | ((refine Or.inl ⟨by rfl, _, c1, ?_⟩))
        | ((refine Br.beq (by rfl) ?_))
        | ((refine Br.bne (by rfl) ?_))
        | ((refine And.intro (Or.inl (Nat.zero_le _)) ?_))
        | ((refine And.intro (by intro y hy; simp at hy; subst hy; rfl) ?_))
        | (refine Br.tt ?_)
        | (refine Br.ff ?_)
        | (refine Br.dec (fun h => ?_) (fun h => ?_)) <;> try (exfalso; omega)
        | (refine Br.neg ?_)
        | (refine Br.mk (fun h => ?_) (fun h => ?_))
        | (refine And.intro rfl ?_)
        | (refine And.intro (by omega) ?_)
        | (refine ⟨_, Or.inl ⟨⟨by omega, by omega⟩, rfl⟩, ?_⟩)
        | (refine And.intro (by simp only [lens_all]; first | done | omega) ?_)
        | (refine And.intro (Nat.le_refl _) ?_)
        | fail
      refine ⟨k + 1, ⟨by omega, by omega⟩, (show l.length - (k + 1) < l.length - k by omega), ⟨rfl, rfl, rfl, rfl, rfl, trivial⟩, ⟨⟨rfl, rfl, trivial⟩, ?_, trivial⟩, rfl⟩
      rw [hst]; exact ⟨rfl, rfl, trivial⟩
    · obtain ⟨s, hs, hs0⟩ : ∃ s, sgn3 x.2 (minI (l.take k)).2 = s ∧ ¬ s < 0 := ⟨_, rfl, by unfold sgn3; rw [if_neg hlt]; split <;> omega⟩
      rw [hs] at c1
      have hm : mnI (minI (l.take k)) x = minI (l.take k) := if_neg hlt
      rw [hm] at hst
      repeat' (conv => whnf); first
        | ((refine its_go' (i := k) (by omega) hx ?_))
        | ((refine Or.inl ⟨by rfl, _, c1, ?_⟩))
        | ((refine Br.beq (by rfl) ?_))
        | ((refine Br.bne (by rfl) ?_))
        | ((refine And.intro (Or.inl (Nat.zero_le _)) ?_))
        | ((refine And.intro (by intro y hy; simp at hy; subst hy; rfl) ?_))
        | (refine Br.tt ?_)
        | (refine Br.ff ?_)
        | (refine Br.dec (fun h => ?_) (fun h => ?_)) <;> try (exfalso; omega)
        | (refine Br.neg ?_)
        | (refine Br.mk (fun h => ?_) (fun h => ?_))
        | (refine And.intro rfl ?_)
        | (refine And.intro (by omega) ?_)
        | (refine ⟨_, Or.inl ⟨⟨by omega, by omega⟩, rfl⟩, ?_⟩)
        | (refine And.intro (by simp only [lens_all]; first | done | omega) ?_)
        | (refine And.intro (Nat.le_refl _) ?_)
        | fail
      refine ⟨k + 1, ⟨by omega, by omega⟩, (show l.length - (k + 1) < l.length - k by omega), ⟨rfl, rfl, rfl, rfl, rfl, trivial⟩, ⟨⟨rfl, rfl, trivial⟩, ?_, trivial⟩, rfl⟩
      rw [hst]; exact ⟨rfl, rfl, trivial⟩
  · obtain rfl : k = l.length := by omega
    have e1 : l.take l.length = l := List.take_length
    repeat' (conv => whnf); first
      | ((refine Br.beq (by rfl) ?_))
      | ((refine Br.bne (by rfl) ?_))
      | ((refine And.intro (Or.inl (Nat.zero_le _)) ?_))
      | ((refine And.intro (by intro y hy; simp at hy; subst hy; rfl) ?_))
      | (refine Br.tt ?_)
      | (refine Br.ff ?_)
      | (refine Br.dec (fun h => ?_) (fun h => ?_)) <;> try (exfalso; omega)
      | (refine Br.neg ?_)
      | (refine Br.mk (fun h => ?_) (fun h => ?_))
      | (refine And.intro rfl ?_)
      | (refine And.intro (by omega) ?_)
      | (refine ⟨_, Or.inl ⟨⟨by omega, by omega⟩, rfl⟩, ?_⟩)
      | (refine And.intro (by simp only [lens_all]; first | done | omega) ?_)
      | (refine And.intro (Nat.le_refl _) ?_)
      | fail
    rw [e1]
    exact rfl

def ir_fold_Least : IR :=
(.seq (.reg (⟨(some 1), .bx (.t 0), none⟩ ::⟨(some 2), .al [.int .i64 0, .int .i64 0], none⟩ ::⟨(some 3), .mv (.c (.bool false)), none⟩ :: [])) (.seq (.reg (⟨(some 5), .ld 2 true (.t 1), none⟩ ::⟨(some 6), .call (.c (.fn 79 [])) [(.t 5)], none⟩ ::⟨(some 7), .fd 1 1 false (.t 6), none⟩ ::⟨(some 4), .mv (.t 7), none⟩ :: [])) (.seq (.seq (.reg (⟨(some 8), .mv (.t 4), none⟩ ::⟨(some 9), .ln (.t 8), none⟩ ::⟨(some 10), .bin .eql (.t 9) (.c (.int .i64 0)), none⟩ :: [])) (.cond (.t 10) (.seq (.reg (⟨(some 11), .bld [.int .i64 0, .int .i64 0] [], none⟩ ::⟨none, .st 2 (.t 2) (.t 11), none⟩ ::⟨(some 3), .mv (.c (.bool false)), none⟩ :: [])) .ret) .skip)) (.seq (.reg (⟨(some 12), .mv (.t 4), none⟩ ::⟨(some 13), .call (.c (.fn 83 [])) [(.t 12), (.c (.fn 84 []))], none⟩ ::⟨none, .st 2 (.t 2) (.t 13), none⟩ ::⟨(some 3), .mv (.c (.bool true)), none⟩ :: [])) .ret))))
theorem cd_fold_Least : Code1 Try.prog 35 14 ir_fold_Least [.c 2 true 2, .t 3] := ⟨Try.call35, _, _, Try.func35, rfl, by kernel_rfl, by kernel_rfl, by kernel_rfl, by kernel_rfl⟩

theorem fs_fLeast (n : Int) (l : List (Int × Int)) (hl : l.length ≤ 400000000) : FS Try.prog 35 [VC n l] (.tup [.agg [.int .i64 (minI (sl n l)).1, .int .i64 (minI (sl n l)).2], .bool (decide (0 < (sl n l).length))]) := by
  refine fs_of_cvc mixed cd_fold_Least (by simp) ?_
  have c1 := fs_fsure n l (by omega)
  have s1 := sl_len n l
  generalize sn n l = N1 at *
  generalize sl n l = a at *
  have hal := its_len a
  by_cases h0 : 0 < a.length
  · have c2 := fs_MinFn a h0 (by omega)
    rw [decide_eq_true h0]
    repeat' (conv => whnf); first
      | ((refine Or.inl ⟨by rfl, _, c1, ?_⟩))
      | ((refine Or.inl ⟨by rfl, _, c2, ?_⟩))
      | ((refine Br.beq (by rfl) ?_))
      | ((refine Br.bne (by rfl) ?_))
      | ((refine And.intro (Or.inl (Nat.zero_le _)) ?_))
      | ((refine And.intro (by intro y hy; simp at hy; subst hy; rfl) ?_))
      | (refine Br.tt ?_)
      | (refine Br.ff ?_)
      | (refine Br.dec (fun h => ?_) (fun h => ?_)) <;> try (exfalso; omega)
      | (refine Br.neg ?_)
      | (refine Br.mk (fun h => ?_) (fun h => ?_))
      | (refine And.intro rfl ?_)
      | (refine And.intro (by omega) ?_)
      | (refine ⟨_, Or.inl ⟨⟨by omega, by omega⟩, rfl⟩, ?_⟩)
      | (refine And.intro (by simp only [lens_all]; first | done | omega) ?_)
      | (refine And.intro (Nat.le_refl _) ?_)
      | fail
    exact rfl
  · obtain rfl : a = [] := List.length_eq_zero_iff.1 (by omega)
    repeat' (conv => whnf); first
      | ((refine Or.inl ⟨by rfl, _, c1, ?_⟩))
      | ((refine Br.beq (by rfl) ?_))
      | ((refine Br.bne (by rfl) ?_))
      | ((refine And.intro (Or.inl (Nat.zero_le _)) ?_))
      | ((refine And.intro (by intro y hy; simp at hy; subst hy; rfl) ?_))
      | (refine Br.tt ?_)
      | (refine Br.ff ?_)
      | (refine Br.dec (fun h => ?_) (fun h => ?_)) <;> try (exfalso; omega)
      | (refine Br.neg ?_)
      | (refine Br.mk (fun h => ?_) (fun h => ?_))
      | (refine And.intro rfl ?_)
      | (refine And.intro (by omega) ?_)
      | (refine ⟨_, Or.inl ⟨⟨by omega, by omega⟩, rfl⟩, ?_⟩)
      | (refine And.intro (by simp only [lens_all]; first | done | omega) ?_)
      | (refine And.intro (Nat.le_refl _) ?_)
      | fail
    exact rfl
end
section
open Go.RowKit
attribute [local irreducible] FS FO IT HS

theorem foldl_mn : ∀ (l : List (Int × Int)) (s : Int × Int), l.foldl mnI s ∈ s :: l ∧ ∀ y ∈ s :: l, (l.foldl mnI s).2 ≤ y.2
  | [], s => ⟨by simp, by simp⟩
  | x :: l, s => by
    obtain ⟨h1, h2⟩ := foldl_mn l (mnI s x)
    rw [List.foldl_cons]
    have hm : mnI s x = s ∨ mnI s x = x := by unfold mnI; split <;> simp
    have hle : (mnI s x).2 ≤ s.2 ∧ (mnI s x).2 ≤ x.2 := by unfold mnI; split <;> constructor <;> omega
    refine ⟨?_, fun y hy => ?_⟩
    · rcases List.mem_cons.1 h1 with h | h
      · rw [h]; rcases hm with hm | hm <;> rw [hm] <;> simp
      · simp [h]
    · have h0 := h2 (mnI s x) (by simp)
      rcases List.mem_cons.1 hy with rfl | hy
      · omega
      · rcases List.mem_cons.1 hy with rfl | hy
        · omega
        · exact h2 y (by simp [hy])
theorem minI_ok {l : List (Int × Int)} (h : l ≠ []) : minI l ∈ l ∧ ∀ y ∈ l, (minI l).2 ≤ y.2 := by
  cases l with
  | nil => exact absurd rfl h
  | cons x l => exact foldl_mn l x
theorem addA_min : ∀ (l : List (Int × Int)) (s : Int × Int), addA 1 s.2 l = (l.foldl mnI s).2
  | [], s => rfl
  | x :: l, s => by
    rw [List.foldl_cons, ← addA_min l (mnI s x)]
    show addA 1 (rAdd 1 s.2 x.2) l = _
    congr 1
    rw [rAdd_min]
    unfold mnI
    split <;> split <;> first | rfl | omega
theorem sumV_min {l : List (Int × Int)} (h : l ≠ []) : sumV 1 l = (minI l).2 := by
  cases l with
  | nil => exact absurd rfl h
  | cons x l => exact addA_min l x
end
end Go.Proofs.Ytckbagpdahhiiaa
