/- Vectors folded: the document's functions. The document's sums of a vector, and its values. The document's values of a vector at places. Which places are none. The values at some places: Select. -/
import Derived.Test.YtckbagpdahhiiaaV13
namespace Go.Proofs.Ytckbagpdahhiiaa
section
open Go.RowKit
attribute [local irreducible] FS FO IT HS

def ir_fretworkref12_Holds : IR :=
(.seq (.reg (⟨(some 6), .mv (.c (.bool false)), none⟩ :: [])) (.seq (.reg (⟨(some 7), .mv (.t 0), none⟩ ::⟨(some 8), .bin .eql (.t 7) (.c (.int .i64 1)), none⟩ ::⟨(some 9), .mv (.t 8), none⟩ ::⟨(some 10), .mv (.t 1), some (9, true)⟩ ::⟨(some 11), .mv (.t 2), some (9, true)⟩ ::⟨(some 12), .bin .lss (.t 10) (.t 11), some (9, true)⟩ ::⟨(some 13), .pick (.t 9) (.t 12) (.c (.bool false)), none⟩ ::⟨(some 14), .mv (.t 13), none⟩ ::⟨(some 15), .mv (.t 0), some (14, false)⟩ ::⟨(some 16), .bin .eql (.t 15) (.c (.int .i64 2)), some (14, false)⟩ ::⟨(some 17), .mv (.t 16), some (14, false)⟩ ::⟨(some 18), .mv (.t 1), some (17, true)⟩ ::⟨(some 19), .mv (.t 2), some (17, true)⟩ ::⟨(some 20), .bin .gtr (.t 18) (.t 19), some (17, true)⟩ ::⟨(some 21), .pick (.t 17) (.t 20) (.c (.bool false)), some (14, false)⟩ ::⟨(some 22), .pick (.t 14) (.c (.bool true)) (.t 21), none⟩ ::⟨(some 23), .mv (.t 22), none⟩ ::⟨(some 24), .mv (.t 0), some (23, false)⟩ ::⟨(some 25), .bin .eql (.t 24) (.c (.int .i64 3)), some (23, false)⟩ ::⟨(some 26), .mv (.t 25), some (23, false)⟩ ::⟨(some 27), .mv (.t 1), some (26, true)⟩ ::⟨(some 28), .mv (.t 2), some (26, true)⟩ ::⟨(some 29), .bin .eql (.t 27) (.t 28), some (26, true)⟩ ::⟨(some 30), .pick (.t 26) (.t 29) (.c (.bool false)), some (23, false)⟩ ::⟨(some 31), .pick (.t 23) (.c (.bool true)) (.t 30), none⟩ ::⟨(some 32), .mv (.t 31), none⟩ ::⟨(some 33), .mv (.t 0), some (32, false)⟩ ::⟨(some 34), .bin .eql (.t 33) (.c (.int .i64 4)), some (32, false)⟩ ::⟨(some 35), .mv (.t 34), some (32, false)⟩ ::⟨(some 36), .mv (.t 1), some (35, true)⟩ ::⟨(some 37), .mv (.t 2), some (35, true)⟩ ::⟨(some 38), .bin .neq (.t 36) (.t 37), some (35, true)⟩ ::⟨(some 39), .pick (.t 35) (.t 38) (.c (.bool false)), some (32, false)⟩ ::⟨(some 40), .pick (.t 32) (.c (.bool true)) (.t 39), none⟩ ::⟨(some 6), .mv (.t 40), none⟩ :: [])) .ret))
theorem cd_fretworkref12_Holds : Code1 Try.prog 39 41 ir_fretworkref12_Holds [.t 6] := ⟨Try.call39, _, _, Try.func39, rfl, by kernel_rfl, by kernel_rfl, by kernel_rfl, by kernel_rfl⟩

theorem fs_r12Holds (t v k : Int) : FS Try.prog 39 [.int .i64 t, .int .i64 v, .int .i64 k] (.bool (hold t v k)) := by
  refine fs_of_cvc mixed cd_fretworkref12_Holds (by simp) ?_
  repeat' (conv => whnf); first
    | ((refine Br.beq (by rfl) ?_))
    | ((refine Br.bne (by rfl) ?_))
    | ((refine And.intro (Or.inl (Nat.zero_le _)) ?_))
    | ((refine And.intro (by intro y hy; simp at hy; subst hy; rfl) ?_))
    | (refine Br.tt ?_)
    | (refine Br.ff ?_)
    | (refine Br.dec (fun h => ?_) (fun h => ?_)) <;> try (exfalso; omega)
    | (refine Br.neg ?_)
    | (refine Br.mk (fun h => ?_) (fun h => ?_))
    | (refine And.intro rfl ?_)
    | (refine And.intro (by omega) ?_)
    | (refine ⟨_, Or.inl ⟨⟨by omega, by omega⟩, rfl⟩, ?_⟩)
    | (refine And.intro (by simp only [lens_all, its_len, eds_len, wds_len]; first | done | omega) ?_)
    | (refine And.intro (Nat.le_refl _) ?_)
    | fail
  all_goals
    show SV.bool _ = SV.bool _
    subst_vars
    unfold hold
    simp [*]

def ir_fretworkref12_Where : IR :=
(.seq (.reg (⟨(some 3), .bx (.t 0), none⟩ ::⟨(some 6), .al [.int .i64 0, .nils], none⟩ :: [])) (.seq (.reg (⟨(some 9), .ld 2 true (.t 3), none⟩ ::⟨(some 10), .call (.c (.fn 62 [])) [(.t 9)], none⟩ ::⟨none, .st 2 (.t 3) (.t 10), none⟩ :: [])) (.seq (.reg (⟨(some 11), .fa 0 (.t 3), none⟩ ::⟨(some 12), .ld 1 false (.t 11), none⟩ ::⟨(some 13), .bld [.int .i64 0, .nils] [(0, 1, (.t 12))], none⟩ ::⟨(some 7), .al [.int .i64 0, .nils], none⟩ ::⟨none, .st 2 (.t 7) (.t 13), none⟩ :: [])) (.seq (.seq (.reg (⟨(some 8), .mv (.c (.int .i64 0)), none⟩ :: [])) (.block 0 (.loop (.seq (.seq (.reg (⟨(some 14), .mv (.t 8), none⟩ ::⟨(some 15), .fa 1 (.t 3), none⟩ ::⟨(some 16), .ld 1 false (.t 15), none⟩ ::⟨(some 17), .ln (.t 16), none⟩ ::⟨(some 18), .bin .lss (.t 14) (.t 17), none⟩ :: [])) (.cond (.t 18) .skip (.exit 0))) (.seq (.block 1 (.seq (.reg (⟨(some 21), .mv (.t 1), none⟩ ::⟨(some 22), .fa 1 (.t 3), none⟩ ::⟨(some 23), .ld 1 false (.t 22), none⟩ ::⟨(some 24), .mv (.t 8), none⟩ ::⟨(some 25), .ia 2 (.t 23) (.t 24), none⟩ ::⟨(some 26), .fa 1 (.t 25), none⟩ ::⟨(some 27), .ld 1 false (.t 26), none⟩ ::⟨(some 28), .mv (.t 2), none⟩ ::⟨(some 29), .call (.c (.fn 39 [])) [(.t 21), (.t 27), (.t 28)], none⟩ :: [])) (.cond (.t 29) (.draw (⟨(some 30), .fa 1 (.t 7), none⟩ ::⟨(some 31), .ld 1 false (.t 30), none⟩ ::⟨(some 32), .fa 1 (.t 3), none⟩ ::⟨(some 33), .ld 1 false (.t 32), none⟩ ::⟨(some 34), .mv (.t 8), none⟩ ::⟨(some 35), .ia 2 (.t 33) (.t 34), none⟩ ::⟨(some 36), .ld 2 true (.t 35), none⟩ ::⟨(some 37), .bsl 1 2 [.int .i64 0, .int .i64 0] [(0, (.t 36))], none⟩ :: []) (⟨(some 38), .ap 2 16 (.t 31) (.t 37), none⟩ ::⟨(some 39), .fa 1 (.t 7), none⟩ ::⟨none, .st 1 (.t 39) (.t 38), none⟩ :: [])) .skip))) (.reg (⟨(some 19), .mv (.t 8), none⟩ ::⟨(some 20), .bin .add (.t 19) (.c (.int .i64 1)), none⟩ ::⟨(some 8), .mv (.t 20), none⟩ :: []))))))) (.seq (.reg (⟨(some 40), .ld 2 true (.t 7), none⟩ ::⟨none, .st 2 (.t 6) (.t 40), none⟩ :: [])) .ret)))))
theorem cd_fretworkref12_Where : Code1 Try.prog 41 41 ir_fretworkref12_Where [.c 2 true 6] := ⟨Try.call41, _, _, Try.func41, rfl, by kernel_rfl, by kernel_rfl, by kernel_rfl, by kernel_rfl⟩

set_option maxHeartbeats 4000000 in
theorem fs_r12Where (n : Int) (l : List (Int × Int)) (t k : Int) (hl : l.length ≤ 400000000) : FS Try.prog 41 [VC n l, .int .i64 t, .int .i64 k] (VC (sn n l) ((sl n l).filter fun x => hold t x.2 k)) := by
  refine fs_of_cvc mixed cd_fretworkref12_Where (by simp) ?_
  have c1 := fs_r9Sure n l (by omega)
  have s1 := sl_len n l
  generalize sn n l = N1 at *
  generalize sl n l = a at *
  have hal := its_len a
  repeat' (conv => whnf); first
    | ((refine Or.inl ⟨by rfl, _, c1, ?_⟩))
    | ((refine Br.beq (by rfl) ?_))
    | ((refine Br.bne (by rfl) ?_))
    | ((refine And.intro (Or.inl (Nat.zero_le _)) ?_))
    | ((refine And.intro (by intro y hy; simp at hy; subst hy; rfl) ?_))
    | (refine Br.tt ?_)
    | (refine Br.ff ?_)
    | (refine Br.dec (fun h => ?_) (fun h => ?_)) <;> try (exfalso; omega)
    | (refine Br.neg ?_)
    | (refine Br.mk (fun h => ?_) (fun h => ?_))
    | (refine And.intro rfl ?_)
    | (refine And.intro (by omega) ?_)
    | (refine ⟨_, Or.inl ⟨⟨by omega, by omega⟩, rfl⟩, ?_⟩)
    | (refine And.intro (by simp only [lens_all]; first | done | omega) ?_)
    | (refine And.intro (Nat.le_refl _) ?_)
    | fail
  refine ⟨Nat, fun j => j ≤ a.length, fun j => [(1, .int .i64 t), (2, .int .i64 k), (3, .ptr 0 0 0 0), (6, .ptr 1 0 0 0), (7, .ptr 2 0 0 0), (8, .int .i64 (j : Int))], fun j => [.vars [.int .i64 N1, IL a], .vars [.int .i64 0, .nils], .vars [.int .i64 N1, .osl 3 2 0 ((a.take j).filter fun x => hold t x.2 k).length], .arr 2 (its ((a.take j).filter fun x => hold t x.2 k))], fun _ => none, fun j => a.length - j,
    ⟨0, Nat.zero_le _, ⟨rfl, rfl, rfl, rfl, rfl, rfl, trivial⟩, ⟨⟨rfl, rfl, trivial⟩, ⟨rfl, rfl, trivial⟩, ⟨rfl, ⟨Nat.le_refl _, rfl, rfl⟩, trivial⟩, rfl, trivial⟩, rfl⟩, fun j hj => ?_⟩
  have hj : j ≤ a.length := hj
  by_cases hja : j < a.length
  · obtain ⟨x, hx⟩ : ∃ x, a.getD j (0, 0) = x := ⟨_, rfl⟩
    have hst : (a.take (j + 1)).filter (fun x => hold t x.2 k) = (a.take j).filter (fun x => hold t x.2 k) ++ if hold t x.2 k = true then [x] else [] := by
      rw [vtake_more hja, hx, List.filter_append, List.filter_cons, List.filter_nil]
    have c2 := fs_r12Holds t x.2 k
    have hfl := List.length_filter_le (fun (x : Int × Int) => hold t x.2 k) (a.take j)
    have htl : (a.take j).length ≤ a.length := by simp; omega
    obtain ⟨b, hb⟩ : ∃ b, hold t x.2 k = b := ⟨_, rfl⟩
    rw [hb] at c2 hst
    cases b
    · rw [if_neg (by simp), List.append_nil] at hst
      repeat' (conv => whnf); first
        | ((refine its_go' (i := j) (by omega) hx ?_))
        | ((refine Or.inl ⟨by rfl, _, c2, ?_⟩))
        | ((refine Br.beq (by rfl) ?_))
        | ((refine Br.bne (by rfl) ?_))
        | ((refine And.intro (Or.inl (Nat.zero_le _)) ?_))
        | ((refine And.intro (by intro y hy; simp at hy; subst hy; rfl) ?_))
        | (refine Br.tt ?_)
        | (refine Br.ff ?_)
        | (refine Br.dec (fun h => ?_) (fun h => ?_)) <;> try (exfalso; omega)
        | (refine Br.neg ?_)
        | (refine Br.mk (fun h => ?_) (fun h => ?_))
        | (refine And.intro rfl ?_)
        | (refine And.intro (by omega) ?_)
        | (refine ⟨_, Or.inl ⟨⟨by omega, by omega⟩, rfl⟩, ?_⟩)
        | (refine And.intro (by simp only [lens_all, its_len, eds_len, wds_len]; first | done | omega) ?_)
        | (refine And.intro (Nat.le_refl _) ?_)
        | fail
      refine ⟨j + 1, (show j + 1 ≤ a.length by omega), (show a.length - (j + 1) < a.length - j by omega), ⟨rfl, rfl, rfl, rfl, rfl, rfl, trivial⟩, ⟨⟨rfl, rfl, trivial⟩, ⟨rfl, rfl, trivial⟩, ⟨rfl, ?_, trivial⟩, ?_, trivial⟩, rfl⟩
      · rw [hst]; exact rfl
      · rw [hst]; exact rfl
    · rw [if_pos rfl] at hst
      repeat' (conv => whnf); first
        | ((refine its_go' (i := j) (by omega) hx ?_))
        | ((refine Or.inl ⟨by rfl, _, c2, ?_⟩))
        | ((refine Br.beq (by rfl) ?_))
        | ((refine Br.bne (by rfl) ?_))
        | ((refine And.intro (Or.inl (Nat.zero_le _)) ?_))
        | ((refine And.intro (by intro y hy; simp at hy; subst hy; rfl) ?_))
        | (refine Br.tt ?_)
        | (refine Br.ff ?_)
        | (refine Br.dec (fun h => ?_) (fun h => ?_)) <;> try (exfalso; omega)
        | (refine Br.neg ?_)
        | (refine Br.mk (fun h => ?_) (fun h => ?_))
        | (refine And.intro rfl ?_)
        | (refine And.intro (by omega) ?_)
        | (refine ⟨_, Or.inl ⟨⟨by omega, by omega⟩, rfl⟩, ?_⟩)
        | (refine And.intro (by simp only [lens_all, its_len]; first | done | omega) ?_)
        | (refine And.intro (Nat.le_refl _) ?_)
        | fail
      refine ⟨j + 1, (show j + 1 ≤ a.length by omega), (show a.length - (j + 1) < a.length - j by omega), ⟨rfl, rfl, rfl, rfl, rfl, rfl, trivial⟩, ⟨⟨rfl, rfl, trivial⟩, ⟨rfl, rfl, trivial⟩, ⟨rfl, ?_, trivial⟩, ?_, trivial⟩, rfl⟩
      · refine congrArg (SV.osl 3 2 0) ?_
        rw [hst]; simp
      · refine congrArg (Blk.arr 2) ?_
        rw [hst, its_append]; rfl
  · obtain rfl : j = a.length := by omega
    repeat' (conv => whnf); first
      | ((refine Br.beq (by rfl) ?_))
      | ((refine Br.bne (by rfl) ?_))
      | ((refine And.intro (Or.inl (Nat.zero_le _)) ?_))
      | ((refine And.intro (by intro y hy; simp at hy; subst hy; rfl) ?_))
      | (refine Br.tt ?_)
      | (refine Br.ff ?_)
      | (refine Br.dec (fun h => ?_) (fun h => ?_)) <;> try (exfalso; omega)
      | (refine Br.neg ?_)
      | (refine Br.mk (fun h => ?_) (fun h => ?_))
      | (refine And.intro rfl ?_)
      | (refine And.intro (by omega) ?_)
      | (refine ⟨_, Or.inl ⟨⟨by omega, by omega⟩, rfl⟩, ?_⟩)
      | (refine And.intro (by simp only [lens_all, its_len]; first | done | omega) ?_)
      | (refine And.intro (Nat.le_refl _) ?_)
      | fail
    conv => whnf
    have e1 : a.take a.length = a := List.take_length
    rw [frz_its, e1]
    rfl

def ir_fretworkref12_Least : IR :=
(.seq (.reg (⟨(some 1), .bx (.t 0), none⟩ ::⟨(some 2), .al [.int .i64 0, .int .i64 0], none⟩ ::⟨(some 3), .mv (.c (.bool false)), none⟩ :: [])) (.seq (.reg (⟨(some 6), .ld 2 true (.t 1), none⟩ ::⟨(some 7), .call (.c (.fn 62 [])) [(.t 6)], none⟩ ::⟨none, .st 2 (.t 1) (.t 7), none⟩ :: [])) (.seq (.reg (⟨(some 4), .al [.int .i64 0, .int .i64 0], none⟩ :: [])) (.seq (.seq (.reg (⟨(some 5), .mv (.c (.int .i64 0)), none⟩ :: [])) (.block 0 (.loop (.seq (.seq (.reg (⟨(some 8), .mv (.t 5), none⟩ ::⟨(some 9), .fa 1 (.t 1), none⟩ ::⟨(some 10), .ld 1 false (.t 9), none⟩ ::⟨(some 11), .ln (.t 10), none⟩ ::⟨(some 12), .bin .lss (.t 8) (.t 11), none⟩ :: [])) (.cond (.t 12) .skip (.exit 0))) (.seq (.block 1 (.seq (.draw (⟨(some 15), .mv (.t 5), none⟩ ::⟨(some 16), .bin .eql (.t 15) (.c (.int .i64 0)), none⟩ ::⟨(some 17), .mv (.t 16), none⟩ ::⟨(some 18), .fa 1 (.t 1), some (17, false)⟩ ::⟨(some 19), .ld 1 false (.t 18), some (17, false)⟩ ::⟨(some 20), .mv (.t 5), some (17, false)⟩ ::⟨(some 21), .ia 2 (.t 19) (.t 20), some (17, false)⟩ ::⟨(some 22), .fa 1 (.t 21), some (17, false)⟩ ::⟨(some 23), .ld 1 false (.t 22), some (17, false)⟩ ::⟨(some 24), .fa 1 (.t 4), some (17, false)⟩ ::⟨(some 25), .ld 1 false (.t 24), some (17, false)⟩ :: []) (⟨(some 26), .bin .lss (.t 23) (.t 25), some (17, false)⟩ ::⟨(some 27), .pick (.t 17) (.c (.bool true)) (.t 26), none⟩ :: [])) (.cond (.t 27) (.reg (⟨(some 28), .fa 1 (.t 1), none⟩ ::⟨(some 29), .ld 1 false (.t 28), none⟩ ::⟨(some 30), .mv (.t 5), none⟩ ::⟨(some 31), .ia 2 (.t 29) (.t 30), none⟩ ::⟨(some 32), .ld 2 true (.t 31), none⟩ ::⟨none, .st 2 (.t 4) (.t 32), none⟩ :: [])) .skip))) (.reg (⟨(some 13), .mv (.t 5), none⟩ ::⟨(some 14), .bin .add (.t 13) (.c (.int .i64 1)), none⟩ ::⟨(some 5), .mv (.t 14), none⟩ :: []))))))) (.seq (.drawL (⟨(some 33), .ld 2 true (.t 4), none⟩ ::⟨(some 34), .fa 1 (.t 1), none⟩ ::⟨(some 35), .ld 1 false (.t 34), none⟩ ::⟨(some 36), .ln (.t 35), none⟩ ::⟨(some 37), .bin .gtr (.t 36) (.c (.int .i64 0)), none⟩ :: []) (⟨(some 34), .fa 1 (.t 1), none⟩ ::⟨(some 35), .ld 1 false (.t 34), none⟩ ::⟨(some 36), .ln (.t 35), none⟩ ::⟨(some 37), .bin .gtr (.t 36) (.c (.int .i64 0)), none⟩ :: []) (⟨none, .st 2 (.t 2) (.t 33), none⟩ :: []) (⟨(some 3), .mv (.t 37), none⟩ :: [])) .ret)))))
theorem cd_fretworkref12_Least : Code1 Try.prog 36 38 ir_fretworkref12_Least [.c 2 true 2, .t 3] := ⟨Try.call36, _, _, Try.func36, rfl, by kernel_rfl, by kernel_rfl, by kernel_rfl, by kernel_rfl⟩

set_option maxHeartbeats 4000000 in
theorem fs_r12Least (n : Int) (l : List (Int × Int)) (hl : l.length ≤ 400000000) : FS Try.prog 36 [VC n l] (.tup [.agg [.int .i64 (minI (sl n l)).1, .int .i64 (minI (sl n l)).2], .bool (decide (0 < (sl n l).length))]) := by
  refine fs_of_cvc mixed cd_fretworkref12_Least (by simp) ?_
  have c1 := fs_r9Sure n l (by omega)
  have s1 := sl_len n l
  generalize sn n l = N1 at *
  generalize sl n l = a at *
  have hal := its_len a
  repeat' (conv => whnf); first
    | ((refine Or.inl ⟨by rfl, _, c1, ?_⟩))
    | ((refine Br.beq (by rfl) ?_))
    | ((refine Br.bne (by rfl) ?_))
    | ((refine And.intro (Or.inl (Nat.zero_le _)) ?_))
    | ((refine And.intro (by intro y hy; simp at hy; subst hy; rfl) ?_))
    | (refine Br.tt ?_)
    | (refine Br.ff ?_)
    | (refine Br.dec (fun h => ?_) (fun h => ?_)) <;> try (exfalso; omega)
    | (refine Br.neg ?_)
    | (refine Br.mk (fun h => ?_) (fun h => ?_))
    | (refine And.intro rfl ?_)
    | (refine And.intro (by omega) ?_)
    | (refine ⟨_, Or.inl ⟨⟨by omega, by omega⟩, rfl⟩, ?_⟩)
    | (refine And.intro (by simp only [lens_all]; first | done | omega) ?_)
    | (refine And.intro (Nat.le_refl _) ?_)
    | fail
  refine ⟨Nat, fun j => j ≤ a.length, fun j => [(1, .ptr 0 0 0 0), (2, .ptr 1 0 0 0), (4, .ptr 2 0 0 0), (5, .int .i64 (j : Int))], fun j => [.vars [.int .i64 N1, IL a], .vars [.int .i64 0, .int .i64 0], .vars [.int .i64 (minI (a.take j)).1, .int .i64 (minI (a.take j)).2]], fun _ => none, fun j => a.length - j,
    ⟨0, Nat.zero_le _, ⟨rfl, rfl, rfl, rfl, trivial⟩, ⟨⟨rfl, rfl, trivial⟩, ⟨rfl, rfl, trivial⟩, ⟨rfl, rfl, trivial⟩, trivial⟩, rfl⟩, fun j hj => ?_⟩
  have hj : j ≤ a.length := hj
  by_cases hja : j < a.length
  · obtain ⟨x, hx⟩ : ∃ x, a.getD j (0, 0) = x := ⟨_, rfl⟩
    have hst : minI (a.take (j + 1)) = if j = 0 then x else mnI (minI (a.take j)) x := by
      rw [vtake_more hja, hx]
      by_cases h0 : j = 0
      · subst h0; rfl
      · rw [if_neg h0]
        cases a with
        | nil => simp at hja
        | cons y a =>
          obtain ⟨i, rfl⟩ : ∃ i, j = i + 1 := ⟨j - 1, by omega⟩
          rw [List.take_succ_cons]
          show (a.take i ++ [x]).foldl mnI y = mnI ((a.take i).foldl mnI y) x
          rw [List.foldl_append]; rfl
    repeat' (conv => whnf); first
      | ((refine its_go' (i := j) (by omega) hx ?_))
      | ((refine Br.beq (by rfl) ?_))
      | ((refine Br.bne (by rfl) ?_))
      | ((refine And.intro (Or.inl (Nat.zero_le _)) ?_))
      | ((refine And.intro (by intro y hy; simp at hy; subst hy; rfl) ?_))
      | (refine Br.tt ?_)
      | (refine Br.ff ?_)
      | (refine Br.dec (fun h => ?_) (fun h => ?_)) <;> try (exfalso; omega)
      | (refine Br.neg ?_)
      | (refine Br.mk (fun h => ?_) (fun h => ?_))
      | (refine And.intro rfl ?_)
      | (refine And.intro (by omega) ?_)
      | (refine ⟨_, Or.inl ⟨⟨by omega, by omega⟩, rfl⟩, ?_⟩)
      | (refine And.intro (by simp only [lens_all]; first | done | omega) ?_)
      | (refine And.intro (Nat.le_refl _) ?_)
      | fail
    · have hj0 : j = 0 := by omega
      rw [if_pos hj0] at hst
      refine ⟨j + 1, (show j + 1 ≤ a.length by omega), (show a.length - (j + 1) < a.length - j by omega), ⟨rfl, rfl, rfl, rfl, trivial⟩, ⟨⟨rfl, rfl, trivial⟩, ⟨rfl, rfl, trivial⟩, ?_, trivial⟩, rfl⟩
      rw [hst]; exact ⟨rfl, rfl, trivial⟩
    · rw [if_neg (by omega), show mnI (minI (a.take j)) x = x from if_pos h] at hst
      refine ⟨j + 1, (show j + 1 ≤ a.length by omega), (show a.length - (j + 1) < a.length - j by omega), ⟨rfl, rfl, rfl, rfl, trivial⟩, ⟨⟨rfl, rfl, trivial⟩, ⟨rfl, rfl, trivial⟩, ?_, trivial⟩, rfl⟩
      rw [hst]; exact ⟨rfl, rfl, trivial⟩
    · rw [if_neg (by omega), show mnI (minI (a.take j)) x = minI (a.take j) from if_neg h] at hst
      refine ⟨j + 1, (show j + 1 ≤ a.length by omega), (show a.length - (j + 1) < a.length - j by omega), ⟨rfl, rfl, rfl, rfl, trivial⟩, ⟨⟨rfl, rfl, trivial⟩, ⟨rfl, rfl, trivial⟩, ?_, trivial⟩, rfl⟩
      rw [hst]; exact ⟨rfl, rfl, trivial⟩
  · obtain rfl : j = a.length := by omega
    have e1 : a.take a.length = a := List.take_length
    repeat' (conv => whnf); first
      | ((refine ex_but 1 ?_; refine And.intro ?_ ?_; focus ((repeat' (first | exact trivial | exact rfl | (refine And.intro ?_ ?_) | omega | ((conv => whnf); first | exact trivial | exact rfl | (refine And.intro ?_ ?_)))); done)))
      | ((exact rfl))
      | ((exact trivial))
      | ((refine And.intro ?_ ?_; focus ((repeat' (first | exact trivial | exact rfl | (refine And.intro ?_ ?_) | omega | ((conv => whnf); first | exact trivial | exact rfl | (refine And.intro ?_ ?_)))); done)))
      | ((refine Br.beq (by rfl) ?_))
      | ((refine Br.bne (by rfl) ?_))
      | ((refine And.intro (Or.inl (Nat.zero_le _)) ?_))
      | ((refine And.intro (by intro y hy; simp at hy; subst hy; rfl) ?_))
      | (refine Br.tt ?_)
      | (refine Br.ff ?_)
      | (refine Br.dec (fun h => ?_) (fun h => ?_)) <;> try (exfalso; omega)
      | (refine Br.neg ?_)
      | (refine Br.mk (fun h => ?_) (fun h => ?_))
      | (refine And.intro rfl ?_)
      | (refine And.intro (by omega) ?_)
      | (refine ⟨_, Or.inl ⟨⟨by omega, by omega⟩, rfl⟩, ?_⟩)
      | (refine And.intro (by simp only [lens_all]; first | done | omega) ?_)
      | (refine And.intro (Nat.le_refl _) ?_)
      | fail
    have e2 : decide ((0 : Int) < ((its a).length : Int)) = decide (0 < a.length) := by rw [hal]; simp
    show SV.tup [.agg [.int .i64 (minI (a.take a.length)).1, .int .i64 (minI (a.take a.length)).2], .bool (decide ((0 : Int) < ((its a).length : Int)))] = _
    rw [e2, e1]
end
section
open Go.RowKit
attribute [local irreducible] FS FO IT HS

theorem sumV_w {r : Int} : ∀ {l : List (Int × Int)}, Ib l → W128 (sumV r l)
  | [], _ => W64i (i_of_fits (zero_fits r).1)
  | x :: _, h => addA_w (W64i (h x (by simp)).2) fun y hy => h y (by simp [hy])
theorem sumV_more {r : Int} {a : List (Int × Int)} {k : Nat} (h : k < a.length) : sumV r (a.take (k + 1)) = if k = 0 then (a.getD k (0, 0)).2 else rAdd r (sumV r (a.take k)) (a.getD k (0, 0)).2 := by
  rw [vtake_more h]
  by_cases h0 : k = 0
  · subst h0; rfl
  · rw [if_neg h0]
    cases a with
    | nil => simp at h
    | cons y a =>
      obtain ⟨i, rfl⟩ : ∃ i, k = i + 1 := ⟨k - 1, by omega⟩
      rw [List.take_succ_cons]
      show (a.take i ++ [_]).foldl _ y.2 = _
      rw [List.foldl_append]; rfl

def ir_fretworkref12_Reduce : IR :=
(.seq (.reg (⟨(some 3), .bx (.t 1), none⟩ ::⟨(some 4), .mv (.c (.int .i64 0)), none⟩ ::⟨(some 5), .mv (.c (.int .i64 0)), none⟩ :: [])) (.seq (.reg (⟨(some 11), .ld 2 true (.t 3), none⟩ ::⟨(some 12), .call (.c (.fn 62 [])) [(.t 11)], none⟩ ::⟨none, .st 2 (.t 3) (.t 12), none⟩ :: [])) (.seq (.seq (.reg (⟨(some 13), .mv (.t 0), none⟩ ::⟨(some 14), .call (.c (.fn 30 [])) [(.t 13)], none⟩ ::⟨(some 15), .un .not (.t 14), none⟩ :: [])) (.cond (.t 15) (.seq (.reg (⟨(some 4), .mv (.c (.int .i64 0)), none⟩ ::⟨(some 5), .mv (.c (.int .i64 8)), none⟩ :: [])) .ret) .skip)) (.seq (.reg (⟨(some 16), .mv (.t 0), none⟩ ::⟨(some 17), .call (.c (.fn 82 [])) [(.t 16)], none⟩ ::⟨(some 18), .call (.c (.fn 49 [])) [(.t 17)], none⟩ ::⟨(some 6), .al [.int .i64 0, .int .u64 0], none⟩ ::⟨none, .st 2 (.t 6) (.t 18), none⟩ :: [])) (.seq (.seq (.reg (⟨(some 7), .mv (.c (.int .i64 0)), none⟩ :: [])) (.block 0 (.loop (.seq (.seq (.reg (⟨(some 19), .mv (.t 7), none⟩ ::⟨(some 20), .fa 1 (.t 3), none⟩ ::⟨(some 21), .ld 1 false (.t 20), none⟩ ::⟨(some 22), .ln (.t 21), none⟩ ::⟨(some 23), .bin .lss (.t 19) (.t 22), none⟩ :: [])) (.cond (.t 23) .skip (.exit 0))) (.seq (.block 1 (.seq (.reg (⟨(some 26), .fa 1 (.t 3), none⟩ ::⟨(some 27), .ld 1 false (.t 26), none⟩ ::⟨(some 28), .mv (.t 7), none⟩ ::⟨(some 29), .ia 2 (.t 27) (.t 28), none⟩ ::⟨(some 30), .fa 1 (.t 29), none⟩ ::⟨(some 31), .ld 1 false (.t 30), none⟩ ::⟨(some 32), .call (.c (.fn 49 [])) [(.t 31)], none⟩ ::⟨(some 8), .al [.int .i64 0, .int .u64 0], none⟩ ::⟨none, .st 2 (.t 8) (.t 32), none⟩ :: [])) (.seq (.reg (⟨(some 33), .mv (.t 7), none⟩ ::⟨(some 34), .bin .eql (.t 33) (.c (.int .i64 0)), none⟩ :: [])) (.cond (.t 34) (.reg (⟨(some 35), .ld 2 true (.t 8), none⟩ ::⟨none, .st 2 (.t 6) (.t 35), none⟩ :: [])) (.reg (⟨(some 36), .mv (.t 0), none⟩ ::⟨(some 37), .ld 2 true (.t 6), none⟩ ::⟨(some 38), .ld 2 true (.t 8), none⟩ ::⟨(some 39), .call (.c (.fn 48 [])) [(.t 36), (.t 37), (.t 38)], none⟩ ::⟨none, .st 2 (.t 6) (.t 39), none⟩ :: [])))))) (.reg (⟨(some 24), .mv (.t 7), none⟩ ::⟨(some 25), .bin .add (.t 24) (.c (.int .i64 1)), none⟩ ::⟨(some 7), .mv (.t 25), none⟩ :: []))))))) (.seq (.reg (⟨(some 41), .ld 2 true (.t 6), none⟩ ::⟨(some 42), .call (.c (.fn 47 [])) [(.t 41)], none⟩ ::⟨(some 40), .mv (.t 42), none⟩ ::⟨(some 43), .ex 0 (.t 40), none⟩ ::⟨(some 44), .ex 1 (.t 40), none⟩ ::⟨(some 9), .mv (.t 43), none⟩ ::⟨(some 10), .mv (.t 44), none⟩ :: [])) (.seq (.seq (.reg (⟨(some 45), .mv (.t 10), none⟩ ::⟨(some 46), .un .not (.t 45), none⟩ :: [])) (.cond (.t 46) (.seq (.reg (⟨(some 4), .mv (.c (.int .i64 0)), none⟩ ::⟨(some 5), .mv (.c (.int .i64 12)), none⟩ :: [])) .ret) .skip)) (.seq (.reg (⟨(some 47), .mv (.t 9), none⟩ ::⟨(some 4), .mv (.t 47), none⟩ ::⟨(some 5), .mv (.c (.int .i64 0)), none⟩ :: [])) .ret))))))))
theorem cd_fretworkref12_Reduce : Code1 Try.prog 34 48 ir_fretworkref12_Reduce [.t 4, .t 5] := ⟨Try.call34, _, _, Try.func34, rfl, by kernel_rfl, by kernel_rfl, by kernel_rfl, by kernel_rfl⟩

set_option maxHeartbeats 4000000 in
theorem fs_r12Reduce (r n : Int) (l : List (Int × Int)) (hl : l.length ≤ 400000000) (hb : Ib l) : FS Try.prog 34 [.int .i64 r, VC n l] (.tup [.int .i64 (redR r n l).1, .int .i64 (redR r n l).2]) := by
  refine fs_of_cvc mixed cd_fretworkref12_Reduce (by simp) ?_
  have c0 := fs_r2Is r
  have c1 := fs_r9Sure n l (by omega)
  have c2 := fs_r2Zero r
  have hz := zero_fits r
  have c3 := fs_r1Of (rZero r) (i_of_fits hz.1)
  have s1 := sl_len n l
  have hbs : Ib (sl n l) := hb.sl
  obtain ⟨t, ht⟩ : ∃ t, redR r n l = t := ⟨_, rfl⟩
  rw [ht]
  unfold redR at ht
  generalize sn n l = N1 at *
  generalize sl n l = a at *
  have hal := its_len a
  cases hR : isR r with
  | false =>
    rw [hR] at ht c0
    rw [if_neg (by simp)] at ht
    subst ht
    repeat' (conv => whnf); first
      | ((refine Or.inl ⟨by rfl, _, c0, ?_⟩))
      | ((refine Or.inl ⟨by rfl, _, c1, ?_⟩))
      | ((refine Br.beq (by rfl) ?_))
      | ((refine Br.bne (by rfl) ?_))
      | (refine Br.tt ?_)
      | (refine Br.ff ?_)
      | (refine Br.dec (fun h => ?_) (fun h => ?_)) <;> try (exfalso; omega)
      | (refine Br.neg ?_)
      | (refine Br.mk (fun h => ?_) (fun h => ?_))
      | (refine And.intro rfl ?_)
      | (refine And.intro (by omega) ?_)
      | (refine ⟨_, Or.inl ⟨⟨by omega, by omega⟩, rfl⟩, ?_⟩)
      | (refine And.intro (by simp only [lens_all]; first | done | omega) ?_)
      | (refine And.intro (Nat.le_refl _) ?_)
      | fail
    exact rfl
  | true =>
    rw [hR] at ht c0
    rw [if_pos rfl] at ht
    repeat' (conv => whnf); first
      | ((refine Or.inl ⟨by rfl, _, c0, ?_⟩))
      | ((refine Or.inl ⟨by rfl, _, c1, ?_⟩))
      | ((refine Or.inl ⟨by rfl, _, c2, ?_⟩))
      | ((refine Or.inl ⟨by rfl, _, c3, ?_⟩))
      | ((refine Br.beq (by rfl) ?_))
      | ((refine Br.bne (by rfl) ?_))
      | (refine Br.tt ?_)
      | (refine Br.ff ?_)
      | (refine Br.dec (fun h => ?_) (fun h => ?_)) <;> try (exfalso; omega)
      | (refine Br.neg ?_)
      | (refine Br.mk (fun h => ?_) (fun h => ?_))
      | (refine And.intro rfl ?_)
      | (refine And.intro (by omega) ?_)
      | (refine ⟨_, Or.inl ⟨⟨by omega, by omega⟩, rfl⟩, ?_⟩)
      | (refine And.intro (by simp only [lens_all]; first | done | omega) ?_)
      | (refine And.intro (Nat.le_refl _) ?_)
      | fail
    refine ⟨Nat, fun k => k ≤ a.length, fun k => [(0, .int .i64 r), (3, .ptr 0 0 0 0), (6, .ptr 1 0 0 0), (7, .int .i64 (k : Int))], fun k => [.vars [.int .i64 N1, IL a], .vars [.int .i64 (hi (sumV r (a.take k))), .int .u64 (lo (sumV r (a.take k)))]], fun _ => none, fun k => a.length - k,
      ⟨0, Nat.zero_le _, ⟨rfl, rfl, rfl, rfl, trivial⟩, ⟨⟨rfl, rfl, trivial⟩, ⟨rfl, rfl, trivial⟩, trivial⟩, rfl⟩, fun k hk => ?_⟩
    have hk : k ≤ a.length := hk
    have hw := sumV_w (r := r) (l := a.take k) fun y hy => hbs y (List.mem_of_mem_take hy)
    by_cases hka : k < a.length
    · have hst := sumV_more (r := r) hka
      obtain ⟨y, hy⟩ : ∃ y, a.getD k (0, 0) = y := ⟨_, rfl⟩
      rw [hy] at hst
      have hym : y ∈ a := by rw [← hy]; simp [hka]
      have c4 := fs_r1Of y.2 (hbs y hym).2
      have c5 := fs_r2Add r _ y.2 hw (W64i (hbs y hym).2)
      repeat' (conv => whnf); first
        | ((refine its_go' (i := k) (by omega) hy ?_))
        | ((refine Or.inl ⟨by rfl, _, c4, ?_⟩))
        | ((refine Or.inl ⟨by rfl, _, c5, ?_⟩))
        | ((refine Br.beq (by rfl) ?_))
        | ((refine Br.bne (by rfl) ?_))
        | (refine Br.tt ?_)
        | (refine Br.ff ?_)
        | (refine Br.dec (fun h => ?_) (fun h => ?_)) <;> try (exfalso; omega)
        | (refine Br.neg ?_)
        | (refine Br.mk (fun h => ?_) (fun h => ?_))
        | (refine And.intro rfl ?_)
        | (refine And.intro (by omega) ?_)
        | (refine ⟨_, Or.inl ⟨⟨by omega, by omega⟩, rfl⟩, ?_⟩)
        | (refine And.intro (by simp only [lens_all]; first | done | omega) ?_)
        | (refine And.intro (Nat.le_refl _) ?_)
        | fail
      · rw [if_pos (by omega)] at hst
        refine ⟨k + 1, (show k + 1 ≤ a.length by omega), (show a.length - (k + 1) < a.length - k by omega), ⟨rfl, rfl, rfl, rfl, trivial⟩, ⟨⟨rfl, rfl, trivial⟩, ?_, ⟨Nat.le_refl _, rfl, rfl⟩⟩, rfl⟩
        rw [hst]; exact ⟨rfl, rfl, trivial⟩
      · rw [if_neg (by omega)] at hst
        refine ⟨k + 1, (show k + 1 ≤ a.length by omega), (show a.length - (k + 1) < a.length - k by omega), ⟨rfl, rfl, rfl, rfl, trivial⟩, ⟨⟨rfl, rfl, trivial⟩, ?_, ⟨Nat.le_refl _, rfl, rfl⟩⟩, rfl⟩
        rw [hst]; exact ⟨rfl, rfl, trivial⟩
    · obtain rfl : k = a.length := by omega
      have c6 := fs_r1Narrow _ hw
      have hta : sumV r (a.take a.length) = sumV r a := by rw [List.take_length]
      rw [← hta] at ht
      cases hf : fits (sumV r (a.take a.length)) with
      | true =>
        rw [hf] at ht c6
        rw [if_pos rfl] at ht
        subst ht
        repeat' (conv => whnf); first
          | ((refine Or.inl ⟨by rfl, _, c6, ?_⟩))
          | ((refine Br.beq (by rfl) ?_))
          | ((refine Br.bne (by rfl) ?_))
          | (refine Br.tt ?_)
          | (refine Br.ff ?_)
          | (refine Br.dec (fun h => ?_) (fun h => ?_)) <;> try (exfalso; omega)
          | (refine Br.neg ?_)
          | (refine Br.mk (fun h => ?_) (fun h => ?_))
          | (refine And.intro rfl ?_)
          | (refine And.intro (by omega) ?_)
          | (refine ⟨_, Or.inl ⟨⟨by omega, by omega⟩, rfl⟩, ?_⟩)
          | (refine And.intro (by simp only [lens_all]; first | done | omega) ?_)
          | (refine And.intro (Nat.le_refl _) ?_)
          | fail
        exact rfl
      | false =>
        rw [hf] at ht c6
        rw [if_neg (by simp)] at ht
        subst ht
        repeat' (conv => whnf); first
          | ((refine Or.inl ⟨by rfl, _, c6, ?_⟩))
          | ((refine Br.beq (by rfl) ?_))
          | ((refine Br.bne (by rfl) ?_))
          | (refine Br.tt ?_)
          | (refine Br.ff ?_)
          | (refine Br.dec (fun h => ?_) (fun h => ?_)) <;> try (exfalso; omega)
          | (refine Br.neg ?_)
          | (refine Br.mk (fun h => ?_) (fun h => ?_))
          | (refine And.intro rfl ?_)
          | (refine And.intro (by omega) ?_)
          | (refine ⟨_, Or.inl ⟨⟨by omega, by omega⟩, rfl⟩, ?_⟩)
          | (refine And.intro (by simp only [lens_all]; first | done | omega) ?_)
          | (refine And.intro (Nat.le_refl _) ?_)
          | fail
        exact rfl
end
section
open Go.RowKit
attribute [local irreducible] FS FO IT HS

def ir_fretworkref09_Get : IR :=
(.seq (.reg (⟨(some 2), .bx (.t 0), none⟩ ::⟨(some 4), .mv (.c (.int .i64 0)), none⟩ ::⟨(some 5), .mv (.c (.bool false)), none⟩ :: [])) (.seq (.reg (⟨(some 7), .ld 2 true (.t 2), none⟩ ::⟨(some 8), .call (.c (.fn 62 [])) [(.t 7)], none⟩ ::⟨none, .st 2 (.t 2) (.t 8), none⟩ :: [])) (.seq (.seq (.reg (⟨(some 6), .mv (.c (.int .i64 0)), none⟩ :: [])) (.block 0 (.loop (.seq (.seq (.reg (⟨(some 9), .mv (.t 6), none⟩ ::⟨(some 10), .fa 1 (.t 2), none⟩ ::⟨(some 11), .ld 1 false (.t 10), none⟩ ::⟨(some 12), .ln (.t 11), none⟩ ::⟨(some 13), .bin .lss (.t 9) (.t 12), none⟩ :: [])) (.cond (.t 13) .skip (.exit 0))) (.seq (.block 1 (.seq (.reg (⟨(some 16), .fa 1 (.t 2), none⟩ ::⟨(some 17), .ld 1 false (.t 16), none⟩ ::⟨(some 18), .mv (.t 6), none⟩ ::⟨(some 19), .ia 2 (.t 17) (.t 18), none⟩ ::⟨(some 20), .fa 0 (.t 19), none⟩ ::⟨(some 21), .ld 1 false (.t 20), none⟩ ::⟨(some 22), .mv (.t 1), none⟩ ::⟨(some 23), .bin .eql (.t 21) (.t 22), none⟩ :: [])) (.cond (.t 23) (.seq (.reg (⟨(some 24), .fa 1 (.t 2), none⟩ ::⟨(some 25), .ld 1 false (.t 24), none⟩ ::⟨(some 26), .mv (.t 6), none⟩ ::⟨(some 27), .ia 2 (.t 25) (.t 26), none⟩ ::⟨(some 28), .fa 1 (.t 27), none⟩ ::⟨(some 29), .ld 1 false (.t 28), none⟩ ::⟨(some 4), .mv (.t 29), none⟩ ::⟨(some 5), .mv (.c (.bool true)), none⟩ :: [])) .ret) .skip))) (.reg (⟨(some 14), .mv (.t 6), none⟩ ::⟨(some 15), .bin .add (.t 14) (.c (.int .i64 1)), none⟩ ::⟨(some 6), .mv (.t 15), none⟩ :: []))))))) (.seq (.reg (⟨(some 4), .mv (.c (.int .i64 0)), none⟩ ::⟨(some 5), .mv (.c (.bool false)), none⟩ :: [])) .ret))))
theorem cd_fretworkref09_Get : Code1 Try.prog 50 30 ir_fretworkref09_Get [.t 4, .t 5] := ⟨Try.call50, _, _, Try.func50, rfl, by kernel_rfl, by kernel_rfl, by kernel_rfl, by kernel_rfl⟩

set_option maxHeartbeats 4000000 in
theorem fs_r9Get (n : Int) (l : List (Int × Int)) (p : Int) (hl : l.length ≤ 400000000) : FS Try.prog 50 [VC n l, .int .i64 p] (.tup [.int .i64 ((gt (sl n l) p).getD 0), .bool (gt (sl n l) p).isSome]) := by
  refine fs_of_cvc mixed cd_fretworkref09_Get (by simp) ?_
  have c1 := fs_r9Sure n l (by omega)
  have s1 := sl_len n l
  generalize sn n l = N1 at *
  generalize sl n l = a at *
  have hal := its_len a
  obtain ⟨g, hg⟩ : ∃ g, gt a p = g := ⟨_, rfl⟩
  rw [hg]
  repeat' (conv => whnf); first
    | ((refine Or.inl ⟨by rfl, _, c1, ?_⟩))
    | ((refine Br.beq (by rfl) ?_))
    | ((refine Br.bne (by rfl) ?_))
    | (refine Br.tt ?_)
    | (refine Br.ff ?_)
    | (refine Br.dec (fun h => ?_) (fun h => ?_)) <;> try (exfalso; omega)
    | (refine Br.neg ?_)
    | (refine Br.mk (fun h => ?_) (fun h => ?_))
    | (refine And.intro rfl ?_)
    | (refine And.intro (by omega) ?_)
    | (refine ⟨_, Or.inl ⟨⟨by omega, by omega⟩, rfl⟩, ?_⟩)
    | (refine And.intro (by simp only [lens_all]; first | done | omega) ?_)
    | (refine And.intro (Nat.le_refl _) ?_)
    | fail
  refine ⟨Nat, fun j => j ≤ a.length ∧ gt a p = gt (a.drop j) p, fun j => [(1, .int .i64 p), (2, .ptr 0 0 0 0), (6, .int .i64 (j : Int))], fun j => [.vars [.int .i64 N1, IL a]], fun _ => none, fun j => a.length - j,
    ⟨0, ⟨Nat.zero_le _, rfl⟩, ⟨rfl, rfl, rfl, trivial⟩, ⟨⟨rfl, rfl, trivial⟩, trivial⟩, rfl⟩, fun j hj => ?_⟩
  obtain ⟨hj1, hj2⟩ := hj
  by_cases hja : j < a.length
  · obtain ⟨x, hx⟩ : ∃ x, a.getD j (0, 0) = x := ⟨_, rfl⟩
    have hd : a.drop j = x :: a.drop (j + 1) := by
      rw [List.drop_eq_getElem_cons hja, ← hx]; simp [hja]
    rw [hd, gt_cons] at hj2
    repeat' (conv => whnf); first
      | ((refine its_go' (i := j) (by omega) hx ?_))
      | ((refine Br.beq (by rfl) ?_))
      | ((refine Br.bne (by rfl) ?_))
      | (refine Br.tt ?_)
      | (refine Br.ff ?_)
      | (refine Br.dec (fun h => ?_) (fun h => ?_)) <;> try (exfalso; omega)
      | (refine Br.neg ?_)
      | (refine Br.mk (fun h => ?_) (fun h => ?_))
      | (refine And.intro rfl ?_)
      | (refine And.intro (by omega) ?_)
      | (refine ⟨_, Or.inl ⟨⟨by omega, by omega⟩, rfl⟩, ?_⟩)
      | (refine And.intro (by simp only [lens_all, its_len]; first | done | omega) ?_)
      | (refine And.intro (Nat.le_refl _) ?_)
      | fail
    · rw [if_pos h, hg] at hj2
      subst hj2
      exact rfl
    · rw [if_neg h] at hj2
      exact ⟨j + 1, ⟨by omega, hj2⟩, (show a.length - (j + 1) < a.length - j by omega), ⟨rfl, rfl, rfl, trivial⟩, ⟨⟨rfl, rfl, trivial⟩, trivial⟩, rfl⟩
  · rw [List.drop_eq_nil_of_le (by omega), gt_nil, hg] at hj2
    subst hj2
    repeat' (conv => whnf); first
      | ((refine Br.beq (by rfl) ?_))
      | ((refine Br.bne (by rfl) ?_))
      | (refine Br.tt ?_)
      | (refine Br.ff ?_)
      | (refine Br.dec (fun h => ?_) (fun h => ?_)) <;> try (exfalso; omega)
      | (refine Br.neg ?_)
      | (refine Br.mk (fun h => ?_) (fun h => ?_))
      | (refine And.intro rfl ?_)
      | (refine And.intro (by omega) ?_)
      | (refine ⟨_, Or.inl ⟨⟨by omega, by omega⟩, rfl⟩, ?_⟩)
      | (refine And.intro (by simp only [lens_all, its_len]; first | done | omega) ?_)
      | (refine And.intro (Nat.le_refl _) ?_)
      | fail
    exact rfl
end
section
open Go.RowKit
attribute [local irreducible] FS FO IT HS

theorem valI_gt (l : List (Int × Int)) (a : Int) : valI l a = (gt l a).getD 0 := by
  unfold valI gt
  cases l.find? fun x => decide (x.1 = a) <;> rfl
theorem hasI'_gt (l : List (Int × Int)) (a : Int) : hasI' l a = (gt l a).isSome := by
  unfold hasI' gt
  rw [Option.isSome_map, Bool.eq_iff_iff, List.find?_isSome, List.any_eq_true]
def outB (N x : Int) : Bool := decide (x < 0) || decide (N ≤ x)

def ir_fold_outside_1 : IR :=
(.seq (.reg (⟨(some 3), .mv (.c (.bool false)), none⟩ :: [])) (.seq (.reg (⟨(some 4), .mv (.t 0), none⟩ ::⟨(some 5), .bin .lss (.t 4) (.c (.int .i64 0)), none⟩ ::⟨(some 6), .mv (.t 5), none⟩ ::⟨(some 7), .mv (.t 0), some (6, false)⟩ ::⟨(some 8), .ld 1 false (.t 1), some (6, false)⟩ ::⟨(some 9), .bin .geq (.t 7) (.t 8), some (6, false)⟩ ::⟨(some 10), .pick (.t 6) (.c (.bool true)) (.t 9), none⟩ ::⟨(some 3), .mv (.t 10), none⟩ :: [])) .ret))
theorem cd_fold_outside_1 : Code1 Try.prog 112 11 ir_fold_outside_1 [.t 3] := ⟨Try.call112, _, _, Try.func112, rfl, by kernel_rfl, by kernel_rfl, by kernel_rfl, by kernel_rfl⟩

theorem fs_out1 (N x : Int) : FS Try.prog 112 [.int .i64 x, .box [.int .i64 N] 0] (.bool (outB N x)) := by
  refine fs_of_cvc mixed cd_fold_outside_1 (by simp) ?_
  repeat' (conv => whnf); first
    | ((refine Br.beq (by rfl) ?_))
    | ((refine Br.bne (by rfl) ?_))
    | (refine Br.tt ?_)
    | (refine Br.ff ?_)
    | (refine Br.dec (fun h => ?_) (fun h => ?_)) <;> try (exfalso; omega)
    | (refine Br.neg ?_)
    | (refine Br.mk (fun h => ?_) (fun h => ?_))
    | (refine And.intro rfl ?_)
    | (refine And.intro (by omega) ?_)
    | (refine ⟨_, Or.inl ⟨⟨by omega, by omega⟩, rfl⟩, ?_⟩)
    | (refine And.intro (by simp only [lens_all, its_len, zs_len]; first | done | omega) ?_)
    | (refine And.intro (Nat.le_refl _) ?_)
    | fail
  all_goals
    show SV.bool _ = SV.bool _
    refine congrArg SV.bool ?_
    unfold outB
    simp <;> omega

def idxZ (p : Int → Bool) (l : List Int) : Int := match l.findIdx? p with
  | some i => i
  | none => -1
theorem idxZ_step {p : Int → Bool} {l : List Int} {k : Nat} {y : Int} (h : ∀ (j : Nat) (x : Int), j < k → l[j]? = some x → p x = false) (hy : l[k]? = some y) (hp : p y = true) : idxZ p l = k := by
  have hlt := (List.getElem?_eq_some_iff.1 hy).1
  have : l.findIdx? p = some k := by
    rw [List.findIdx?_eq_some_iff_getElem]
    refine ⟨hlt, by rw [(List.getElem?_eq_some_iff.1 hy).2]; exact hp, fun j hj => ?_⟩
    have := h j _ hj (List.getElem?_eq_getElem (by omega))
    simp [this]
  rw [idxZ, this]
theorem idxZ_none {p : Int → Bool} {l : List Int} (h : ∀ (j : Nat) (x : Int), l[j]? = some x → p x = false) : idxZ p l = -1 := by
  have : l.findIdx? p = none := by
    rw [List.findIdx?_eq_none_iff]
    intro x hx
    obtain ⟨j, hj⟩ := List.mem_iff_getElem?.1 hx
    simp [h j x hj]
  rw [idxZ, this]
theorem idxZ_any (p : Int → Bool) (l : List Int) : decide (0 ≤ idxZ p l) = l.any p := by
  unfold idxZ
  cases h : l.findIdx? p with
  | none =>
    rw [List.findIdx?_eq_none_iff] at h
    have : l.any p = false := List.any_eq_false.2 fun x hx => by rw [h x hx]; simp
    rw [this]; rfl
  | some i =>
    rw [List.findIdx?_eq_some_iff_getElem] at h
    obtain ⟨h1, h2, _⟩ := h
    rw [List.any_eq_true.2 ⟨_, List.getElem_mem h1, h2⟩]
    exact decide_eq_true (Int.natCast_nonneg i)

def ir_slices_IndexFunc_int_int : IR :=
(.seq (.reg (⟨(some 4), .mv (.c (.int .i64 0)), none⟩ :: [])) (.seq (.seq (.reg (⟨(some 6), .mv (.t 0), none⟩ ::⟨(some 7), .ln (.t 6), none⟩ ::⟨(some 8), .mv (.c (.int .i64 0)), none⟩ :: [])) (.block 0 (.loop (.seq (.reg (⟨(some 9), .bin .lss (.t 8) (.t 7), none⟩ :: [])) (.seq (.cond (.t 9) .skip (.exit 0)) (.seq (.block 1 (.seq (.reg (⟨(some 10), .mv (.t 8), none⟩ ::⟨(some 5), .mv (.t 10), none⟩ :: [])) (.seq (.reg (⟨(some 11), .mv (.t 1), none⟩ ::⟨(some 12), .mv (.t 0), none⟩ ::⟨(some 13), .mv (.t 5), none⟩ ::⟨(some 14), .ia 1 (.t 12) (.t 13), none⟩ ::⟨(some 15), .ld 1 false (.t 14), none⟩ ::⟨(some 16), .call (.t 11) [(.t 15)], none⟩ :: [])) (.cond (.t 16) (.seq (.reg (⟨(some 17), .mv (.t 5), none⟩ ::⟨(some 4), .mv (.t 17), none⟩ :: [])) .ret) .skip)))) (.reg (⟨(some 18), .bin .add (.t 8) (.c (.int .i64 1)), none⟩ ::⟨(some 8), .mv (.t 18), none⟩ :: [])))))))) (.seq (.reg (⟨(some 4), .mv (.c (.int .i64 (-1))), none⟩ :: [])) .ret)))
theorem cd_slices_IndexFunc_int_int : Code1 Try.prog 130 19 ir_slices_IndexFunc_int_int [.t 4] := ⟨Try.call130, _, _, Try.func130, rfl, by kernel_rfl, by kernel_rfl, by kernel_rfl, by kernel_rfl⟩

theorem fs_IndexZ (g : FuncId) (caps : List SV) (p : Int → Bool) (l : List Int) (hl : l.length ≤ 1000000000) (hpu : ∀ a, SV.pure.pureL (.int .i64 a :: caps) = true) (hp : ∀ x ∈ l, FS Try.prog g (.int .i64 x :: caps) (.bool (p x))) :
    FS Try.prog 130 [Z l, .fn g caps] (.int .i64 (idxZ p l)) := by
  refine fs_of_cvc mixed cd_slices_IndexFunc_int_int (by simp) ?_
  have hzl := zs_len l
  refine ⟨Nat, fun k => k ≤ l.length ∧ ∀ (j : Nat) (x : Int), j < k → l[j]? = some x → p x = false, fun k => [(0, Z l), (1, .fn g caps), (7, .int .i64 (l.length : Int)), (8, .int .i64 (k : Int))], fun k => [], fun _ => none, fun k => l.length - k, ⟨0, ⟨by omega, fun j x h => by omega⟩, ⟨rfl, rfl, ?_, rfl, trivial⟩, trivial, rfl⟩, fun k hk => ?_⟩
  · show SV.int .i64 _ = SV.int .i64 _
    rw [zs_len]
  obtain ⟨hk1, hk2⟩ := hk
  repeat' (conv => whnf); first
    | ((refine fun x hx => ?_); (obtain ⟨y, hy, rfl⟩ := zs_get hx; clear hx))
    | ((refine Or.inl ⟨hpu _, _, hp y (List.mem_of_getElem? hy), ?_⟩))
    | ((refine Br.beq (by rfl) ?_))
    | ((refine Br.bne (by rfl) ?_))
    | (refine Br.tt ?_)
    | (refine Br.ff ?_)
    | (refine Br.dec (fun h => ?_) (fun h => ?_)) <;> try (exfalso; omega)
    | (refine Br.neg ?_)
    | (refine Br.mk (fun h => ?_) (fun h => ?_))
    | (refine And.intro rfl ?_)
    | (refine And.intro (by omega) ?_)
    | (refine ⟨_, Or.inl ⟨⟨by omega, by omega⟩, rfl⟩, ?_⟩)
    | (refine And.intro (by simp only [lens_all, its_len, zs_len]; first | done | omega) ?_)
    | (refine And.intro (Nat.le_refl _) ?_)
    | fail
  · have hy' : l[k]? = some y := hy
    show SV.int .i64 _ = SV.int .i64 _
    rw [idxZ_step hk2 hy' h]
  · have hy' : l[k]? = some y := hy
    have hpy : p y = false := h
    refine ⟨k + 1, ⟨by omega, fun j x hj hx => ?_⟩, (show l.length - (k + 1) < l.length - k by omega), ⟨rfl, rfl, rfl, rfl, trivial⟩, trivial, rfl⟩
    rcases Nat.lt_or_ge j k with h' | h'
    · exact hk2 j x h' hx
    · have : j = k := by omega
      subst this; rw [hy'] at hx; cases hx; exact hpy
  · show SV.int .i64 _ = SV.int .i64 _
    rw [idxZ_none fun j x hx => hk2 j x (by have := (List.getElem?_eq_some_iff.1 hx).1; omega) hx]

def ir_slices_ContainsFunc_int_int : IR :=
(.seq (.reg (⟨(some 4), .mv (.c (.bool false)), none⟩ :: [])) (.seq (.reg (⟨(some 5), .mv (.t 0), none⟩ ::⟨(some 6), .mv (.t 1), none⟩ ::⟨(some 7), .call (.c (.fn 130 [])) [(.t 5), (.t 6)], none⟩ ::⟨(some 8), .bin .geq (.t 7) (.c (.int .i64 0)), none⟩ ::⟨(some 4), .mv (.t 8), none⟩ :: [])) .ret))
theorem cd_slices_ContainsFunc_int_int : Code1 Try.prog 111 9 ir_slices_ContainsFunc_int_int [.t 4] := ⟨Try.call111, _, _, Try.func111, rfl, by kernel_rfl, by kernel_rfl, by kernel_rfl, by kernel_rfl⟩

theorem fs_ContainsZ (g : FuncId) (caps : List SV) (p : Int → Bool) (l : List Int) (hl : l.length ≤ 1000000000) (hpu : ∀ a, SV.pure.pureL (.int .i64 a :: caps) = true) (hp : ∀ x ∈ l, FS Try.prog g (.int .i64 x :: caps) (.bool (p x))) :
    FS Try.prog 111 [Z l, .fn g caps] (.bool (l.any p)) := by
  refine fs_of_cvc mixed cd_slices_ContainsFunc_int_int (by simp) ?_
  have c1 := fs_IndexZ g caps p l hl hpu hp
  have hcp : SV.pure.pureL caps = true := by have := hpu 0; simpa [SV.pure.pureL, SV.pure] using this
  have hcr : SV.pure.pureL [Z l, .fn g caps] = true := by simp [SV.pure.pureL, SV.pure, Z, hcp]
  rw [← idxZ_any]
  generalize idxZ p l = i at *
  repeat' (conv => whnf); first
    | ((refine Or.inl ⟨hcr, _, c1, ?_⟩))
    | ((refine Br.beq (by rfl) ?_))
    | ((refine Br.bne (by rfl) ?_))
    | (refine Br.tt ?_)
    | (refine Br.ff ?_)
    | (refine Br.dec (fun h => ?_) (fun h => ?_)) <;> try (exfalso; omega)
    | (refine Br.neg ?_)
    | (refine Br.mk (fun h => ?_) (fun h => ?_))
    | (refine And.intro rfl ?_)
    | (refine And.intro (by omega) ?_)
    | (refine ⟨_, Or.inl ⟨⟨by omega, by omega⟩, rfl⟩, ?_⟩)
    | (refine And.intro (by simp only [lens_all, its_len, zs_len]; first | done | omega) ?_)
    | (refine And.intro (Nat.le_refl _) ?_)
    | fail
  all_goals
    show SV.bool _ = SV.bool _
    simp

def ir_fold_outside : IR :=
(.seq (.reg (⟨(some 3), .bx (.t 1), none⟩ ::⟨(some 4), .mv (.c (.bool false)), none⟩ :: [])) (.seq (.reg (⟨(some 5), .mv (.t 0), none⟩ ::⟨(some 6), .fn 112 [(.t 3)], none⟩ ::⟨(some 7), .call (.c (.fn 111 [])) [(.t 5), (.t 6)], none⟩ ::⟨(some 4), .mv (.t 7), none⟩ :: [])) .ret))
theorem cd_fold_outside : Code1 Try.prog 86 8 ir_fold_outside [.t 4] := ⟨Try.call86, _, _, Try.func86, rfl, by kernel_rfl, by kernel_rfl, by kernel_rfl, by kernel_rfl⟩

theorem fs_outside (at' : List Int) (N : Int) (hl : at'.length ≤ 1000000000) : FS Try.prog 86 [Z at', .int .i64 N] (.bool (at'.any (outB N))) := by
  refine fs_of_cvc mixed cd_fold_outside (by simp) ?_
  have c1 := fs_ContainsZ 112 [.box [.int .i64 N] 0] (outB N) at' hl (fun _ => rfl) fun x _ => fs_out1 N x
  generalize at'.any (outB N) = b at *
  repeat' (conv => whnf); first
    | ((refine Or.inr (Or.inr (Or.inl ⟨_, c1, rfl, ?_⟩))))
    | ((refine Br.beq (by rfl) ?_))
    | ((refine Br.bne (by rfl) ?_))
    | (refine Br.tt ?_)
    | (refine Br.ff ?_)
    | (refine Br.dec (fun h => ?_) (fun h => ?_)) <;> try (exfalso; omega)
    | (refine Br.neg ?_)
    | (refine Br.mk (fun h => ?_) (fun h => ?_))
    | (refine And.intro rfl ?_)
    | (refine And.intro (by omega) ?_)
    | (refine ⟨_, Or.inl ⟨⟨by omega, by omega⟩, rfl⟩, ?_⟩)
    | (refine And.intro (by simp only [lens_all, its_len, zs_len]; first | done | omega) ?_)
    | (refine And.intro (Nat.le_refl _) ?_)
    | fail
  exact rfl
end
section
open Go.RowKit
attribute [local irreducible] FS FO IT HS

/-- The values at the first k places. -/
def selK (a : List (Int × Int)) (at' : List Int) (k : Nat) : List (Int × Int) := (List.range k).filterMap fun (i : Nat) => (gt a (at'.getD i 0)).map fun v => ((i : Int), v)
def selR (n : Int) (l : List (Int × Int)) (at' : List Int) : Int × List (Int × Int) × Int :=
  if 4096 < at'.length then (0, [], 5) else if at'.any (outB (sn n l)) = true then (0, [], 3) else ((at'.length : Int), selK (sl n l) at' at'.length, 0)
theorem selK_succ (a : List (Int × Int)) (at' : List Int) (k : Nat) : selK a at' (k + 1) = selK a at' k ++ ((gt a (at'.getD k 0)).map fun v => ((k : Int), v)).toList := by
  unfold selK
  rw [List.range_succ, List.filterMap_append]
  refine congrArg (List.filterMap (fun (i : Nat) => (gt a (at'.getD i 0)).map fun v => ((i : Int), v)) (List.range k) ++ ·) ?_
  rw [List.filterMap_cons, List.filterMap_nil]
  cases h : gt a (at'.getD k 0) <;> simp
theorem selK_le (a : List (Int × Int)) (at' : List Int) (k : Nat) : (selK a at' k).length ≤ k := by
  unfold selK
  have := List.length_filterMap_le (fun (i : Nat) => (gt a (at'.getD i 0)).map fun v => ((i : Int), v)) (List.range k)
  simpa using this
theorem zs_go {l : List Int} {q i : Nat} {v : Int} {K : List SV → Prop} (hq : q = i) (hv : l.getD i 0 = v) (h : K [.int .i64 v]) : ∀ x, (zs l)[q]? = some x → K x := fun x hx => by
  subst hq
  obtain ⟨y, hy, rfl⟩ := zs_get hx
  have : y = v := by rw [← hv]; simp [hy]
  rw [this]; exact h

def ir_fold_Select : IR :=
(.seq (.reg (⟨(some 2), .bx (.t 0), none⟩ ::⟨(some 4), .al [.int .i64 0, .nils], none⟩ ::⟨(some 5), .mv (.c (.int .i64 0)), none⟩ :: [])) (.seq (.reg (⟨(some 11), .ld 2 true (.t 2), none⟩ ::⟨(some 12), .call (.c (.fn 79 [])) [(.t 11)], none⟩ ::⟨none, .st 2 (.t 2) (.t 12), none⟩ :: [])) (.seq (.block 0 (.seq (.reg (⟨(some 14), .mv (.t 1), none⟩ ::⟨(some 15), .ln (.t 14), none⟩ ::⟨(some 16), .bin .gtr (.t 15) (.c (.int .i64 4096)), none⟩ ::⟨(some 13), .mv (.t 16), none⟩ :: [])) (.cond (.t 13) (.seq (.reg (⟨(some 17), .bld [.int .i64 0, .nils] [], none⟩ ::⟨none, .st 2 (.t 4) (.t 17), none⟩ ::⟨(some 5), .mv (.c (.int .i64 5)), none⟩ :: [])) .ret) (.seq (.reg (⟨(some 19), .mv (.t 1), none⟩ ::⟨(some 20), .fa 0 (.t 2), none⟩ ::⟨(some 21), .ld 1 false (.t 20), none⟩ ::⟨(some 22), .call (.c (.fn 86 [])) [(.t 19), (.t 21)], none⟩ ::⟨(some 18), .mv (.t 22), none⟩ :: [])) (.cond (.t 18) (.seq (.reg (⟨(some 23), .bld [.int .i64 0, .nils] [], none⟩ ::⟨none, .st 2 (.t 4) (.t 23), none⟩ ::⟨(some 5), .mv (.c (.int .i64 3)), none⟩ :: [])) .ret) .skip))))) (.seq (.reg (⟨(some 24), .mv (.t 1), none⟩ ::⟨(some 25), .ln (.t 24), none⟩ ::⟨(some 26), .bld [.int .i64 0, .nils] [(0, 1, (.t 25))], none⟩ ::⟨(some 6), .al [.int .i64 0, .nils], none⟩ ::⟨none, .st 2 (.t 6) (.t 26), none⟩ :: [])) (.seq (.seq (.reg (⟨(some 27), .mv (.t 1), none⟩ ::⟨(some 28), .ln (.t 27), none⟩ ::⟨(some 29), .mv (.c (.int .i64 0)), none⟩ :: [])) (.block 1 (.loop (.seq (.reg (⟨(some 30), .bin .lss (.t 29) (.t 28), none⟩ :: [])) (.seq (.cond (.t 30) .skip (.exit 1)) (.seq (.block 2 (.seq (.reg (⟨(some 31), .mv (.t 29), none⟩ ::⟨(some 32), .ia 1 (.t 27) (.t 29), none⟩ ::⟨(some 33), .ld 1 false (.t 32), none⟩ ::⟨(some 7), .mv (.t 31), none⟩ ::⟨(some 8), .mv (.t 33), none⟩ :: [])) (.seq (.reg (⟨(some 35), .ld 2 true (.t 2), none⟩ ::⟨(some 36), .mv (.t 8), none⟩ ::⟨(some 37), .call (.c (.fn 87 [])) [(.t 35), (.t 36)], none⟩ ::⟨(some 34), .mv (.t 37), none⟩ ::⟨(some 38), .ex 0 (.t 34), none⟩ ::⟨(some 39), .ex 1 (.t 34), none⟩ ::⟨(some 9), .mv (.t 38), none⟩ ::⟨(some 10), .mv (.t 39), none⟩ :: [])) (.seq (.reg (⟨(some 40), .mv (.t 10), none⟩ :: [])) (.cond (.t 40) (.reg (⟨(some 41), .fa 1 (.t 6), none⟩ ::⟨(some 42), .ld 1 false (.t 41), none⟩ ::⟨(some 43), .mv (.t 7), none⟩ ::⟨(some 44), .mv (.t 9), none⟩ ::⟨(some 45), .bld [.int .i64 0, .int .i64 0] [(0, 1, (.t 43)), (1, 1, (.t 44))], none⟩ ::⟨(some 46), .bsl 1 2 [.int .i64 0, .int .i64 0] [(0, (.t 45))], none⟩ ::⟨(some 47), .ap 2 16 (.t 42) (.t 46), none⟩ ::⟨(some 48), .fa 1 (.t 6), none⟩ ::⟨none, .st 1 (.t 48) (.t 47), none⟩ :: [])) .skip))))) (.reg (⟨(some 49), .bin .add (.t 29) (.c (.int .i64 1)), none⟩ ::⟨(some 29), .mv (.t 49), none⟩ :: [])))))))) (.seq (.reg (⟨(some 50), .ld 2 true (.t 6), none⟩ ::⟨none, .st 2 (.t 4) (.t 50), none⟩ ::⟨(some 5), .mv (.c (.int .i64 0)), none⟩ :: [])) .ret))))))
theorem cd_fold_Select : Code1 Try.prog 42 51 ir_fold_Select [.c 2 true 4, .t 5] := ⟨Try.call42, _, _, Try.func42, rfl, by kernel_rfl, by kernel_rfl, by kernel_rfl, by kernel_rfl⟩

set_option maxHeartbeats 4000000 in
theorem fs_Select (n : Int) (l : List (Int × Int)) (at' : List Int) (hl : l.length ≤ 400000000) : FS Try.prog 42 [VC n l, Z at'] (VE (selR n l at')) := by
  refine fs_of_cvc mixed cd_fold_Select (by simp) ?_
  have c1 := fs_fsure n l (by omega)
  have hok := okV n l
  have s1 := sl_len n l
  have c3 : ∀ p, FS Try.prog 87 [VC (sn n l) (sl n l), .int .i64 p] (.tup [.int .i64 ((gt (sl n l) p).getD 0), .bool (gt (sl n l) p).isSome]) := fun p => by
    have := fs_Get (sn n l) (sl n l) p (by omega)
    rwa [hok.sl, valI_gt, hasI'_gt] at this
  obtain ⟨t, ht⟩ : ∃ t, selR n l at' = t := ⟨_, rfl⟩
  rw [ht]
  unfold selR at ht
  generalize sn n l = N1 at *
  generalize sl n l = a at *
  have hzl := zs_len at'
  by_cases h5 : 4096 < at'.length
  · rw [if_pos h5] at ht
    subst ht
    repeat' (conv => whnf); first
      | ((refine Or.inl ⟨by rfl, _, c1, ?_⟩))
      | ((refine Br.beq (by rfl) ?_))
      | ((refine Br.bne (by rfl) ?_))
      | ((refine And.intro (Or.inl (Nat.zero_le _)) ?_))
      | ((refine And.intro (by intro y hy; simp at hy; subst hy; rfl) ?_))
      | (refine Br.tt ?_)
      | (refine Br.ff ?_)
      | (refine Br.dec (fun h => ?_) (fun h => ?_)) <;> try (exfalso; omega)
      | (refine Br.neg ?_)
      | (refine Br.mk (fun h => ?_) (fun h => ?_))
      | (refine And.intro rfl ?_)
      | (refine And.intro (by omega) ?_)
      | (refine ⟨_, Or.inl ⟨⟨by omega, by omega⟩, rfl⟩, ?_⟩)
      | (refine And.intro (by simp only [lens_all]; first | done | omega) ?_)
      | (refine And.intro (Nat.le_refl _) ?_)
      | fail
    exact ⟨⟨rfl, rfl, trivial⟩, rfl, trivial⟩
  · rw [if_neg h5] at ht
    have c2 := fs_outside at' N1 (by omega)
    cases ho : at'.any (outB N1) with
    | true =>
      rw [ho] at c2 ht
      rw [if_pos rfl] at ht
      subst ht
      repeat' (conv => whnf); first
        | ((refine Or.inl ⟨by rfl, _, c1, ?_⟩))
        | ((refine Or.inl ⟨by rfl, _, c2, ?_⟩))
        | ((refine Br.beq (by rfl) ?_))
        | ((refine Br.bne (by rfl) ?_))
        | ((refine And.intro (Or.inl (Nat.zero_le _)) ?_))
        | ((refine And.intro (by intro y hy; simp at hy; subst hy; rfl) ?_))
        | (refine Br.tt ?_)
        | (refine Br.ff ?_)
        | (refine Br.dec (fun h => ?_) (fun h => ?_)) <;> try (exfalso; omega)
        | (refine Br.neg ?_)
        | (refine Br.mk (fun h => ?_) (fun h => ?_))
        | (refine And.intro rfl ?_)
        | (refine And.intro (by omega) ?_)
        | (refine ⟨_, Or.inl ⟨⟨by omega, by omega⟩, rfl⟩, ?_⟩)
        | (refine And.intro (by simp only [lens_all]; first | done | omega) ?_)
        | (refine And.intro (Nat.le_refl _) ?_)
        | fail
      exact ⟨⟨rfl, rfl, trivial⟩, rfl, trivial⟩
    | false =>
      rw [ho] at c2 ht
      rw [if_neg (by simp)] at ht
      subst ht
      repeat' (conv => whnf); first
        | ((refine Or.inl ⟨by rfl, _, c1, ?_⟩))
        | ((refine Or.inl ⟨by rfl, _, c2, ?_⟩))
        | ((refine Br.beq (by rfl) ?_))
        | ((refine Br.bne (by rfl) ?_))
        | ((refine And.intro (Or.inl (Nat.zero_le _)) ?_))
        | ((refine And.intro (by intro y hy; simp at hy; subst hy; rfl) ?_))
        | (refine Br.tt ?_)
        | (refine Br.ff ?_)
        | (refine Br.dec (fun h => ?_) (fun h => ?_)) <;> try (exfalso; omega)
        | (refine Br.neg ?_)
        | (refine Br.mk (fun h => ?_) (fun h => ?_))
        | (refine And.intro rfl ?_)
        | (refine And.intro (by omega) ?_)
        | (refine ⟨_, Or.inl ⟨⟨by omega, by omega⟩, rfl⟩, ?_⟩)
        | (refine And.intro (by simp only [lens_all]; first | done | omega) ?_)
        | (refine And.intro (Nat.le_refl _) ?_)
        | fail
      refine ⟨Nat, fun j => j ≤ at'.length, fun j => [(2, .ptr 0 0 0 0), (4, .ptr 1 0 0 0), (6, .ptr 2 0 0 0), (27, Z at'), (28, .int .i64 (at'.length : Int)), (29, .int .i64 (j : Int))], fun j => [.vars [.int .i64 N1, IL a], .vars [.int .i64 0, .nils], .vars [.int .i64 (at'.length : Int), .osl 3 2 0 (selK a at' j).length], .arr 2 (its (selK a at' j))], fun _ => none, fun j => at'.length - j,
        ⟨0, Nat.zero_le _, ⟨rfl, rfl, rfl, rfl, ?_, rfl, trivial⟩, ⟨⟨rfl, rfl, trivial⟩, ⟨rfl, rfl, trivial⟩, ⟨?_, ⟨Nat.le_refl _, rfl, rfl⟩, trivial⟩, rfl, trivial⟩, rfl⟩, fun j hj => ?_⟩
      · exact congrArg (SV.int .i64) (congrArg Int.ofNat hzl)
      · exact congrArg (SV.int .i64) (congrArg Int.ofNat hzl)
      have hj : j ≤ at'.length := hj
      have hsl := selK_le a at' j
      by_cases hja : j < at'.length
      · obtain ⟨p, hp⟩ : ∃ p, at'.getD j 0 = p := ⟨_, rfl⟩
        have hst := selK_succ a at' j
        rw [hp] at hst
        have c4 := c3 p
        cases hg : gt a p with
        | none =>
          rw [hg] at hst c4
          repeat' (conv => whnf); first
            | ((refine zs_go (i := j) (by omega) hp ?_))
            | ((refine Or.inl ⟨by rfl, _, c4, ?_⟩))
            | ((refine Br.beq (by rfl) ?_))
            | ((refine Br.bne (by rfl) ?_))
            | ((refine And.intro (Or.inl (Nat.zero_le _)) ?_))
            | ((refine And.intro (by intro y hy; simp at hy; subst hy; rfl) ?_))
            | (refine Br.tt ?_)
            | (refine Br.ff ?_)
            | (refine Br.dec (fun h => ?_) (fun h => ?_)) <;> try (exfalso; omega)
            | (refine Br.neg ?_)
            | (refine Br.mk (fun h => ?_) (fun h => ?_))
            | (refine And.intro rfl ?_)
            | (refine And.intro (by omega) ?_)
            | (refine ⟨_, Or.inl ⟨⟨by omega, by omega⟩, rfl⟩, ?_⟩)
            | (refine And.intro (by simp only [lens_all]; first | done | omega) ?_)
            | (refine And.intro (Nat.le_refl _) ?_)
            | fail
          refine ⟨j + 1, (show j + 1 ≤ at'.length by omega), (show at'.length - (j + 1) < at'.length - j by omega), ⟨rfl, rfl, rfl, rfl, rfl, rfl, trivial⟩, ⟨⟨rfl, rfl, trivial⟩, ⟨rfl, rfl, trivial⟩, ⟨rfl, ?_, trivial⟩, ?_, trivial⟩, rfl⟩
          · rw [hst]; exact congrArg (SV.osl 3 2 0) (by simp)
          · rw [hst]; exact congrArg (fun l => Blk.arr 2 (its l)) (by simp)
        | some v =>
          rw [hg] at hst c4
          repeat' (conv => whnf); first
            | ((refine zs_go (i := j) (by omega) hp ?_))
            | ((refine Or.inl ⟨by rfl, _, c4, ?_⟩))
            | ((refine Br.beq (by rfl) ?_))
            | ((refine Br.bne (by rfl) ?_))
            | ((refine And.intro (Or.inl (Nat.zero_le _)) ?_))
            | ((refine And.intro (by intro y hy; simp at hy; subst hy; rfl) ?_))
            | (refine Br.tt ?_)
            | (refine Br.ff ?_)
            | (refine Br.dec (fun h => ?_) (fun h => ?_)) <;> try (exfalso; omega)
            | (refine Br.neg ?_)
            | (refine Br.mk (fun h => ?_) (fun h => ?_))
            | (refine And.intro rfl ?_)
            | (refine And.intro (by omega) ?_)
            | (refine ⟨_, Or.inl ⟨⟨by omega, by omega⟩, rfl⟩, ?_⟩)
            | (refine And.intro (by simp only [lens_all, its_len]; first | done | omega) ?_)
            | (refine And.intro (Nat.le_refl _) ?_)
            | fail
          refine ⟨j + 1, (show j + 1 ≤ at'.length by omega), (show at'.length - (j + 1) < at'.length - j by omega), ⟨rfl, rfl, rfl, rfl, rfl, rfl, trivial⟩, ⟨⟨rfl, rfl, trivial⟩, ⟨rfl, rfl, trivial⟩, ⟨rfl, ?_, trivial⟩, ?_, trivial⟩, rfl⟩
          · rw [hst]; exact congrArg (SV.osl 3 2 0) (by simp)
          · rw [hst, its_append]; rfl
      · obtain rfl : j = at'.length := by omega
        repeat' (conv => whnf); first
          | ((refine Br.beq (by rfl) ?_))
          | ((refine Br.bne (by rfl) ?_))
          | ((refine And.intro (Or.inl (Nat.zero_le _)) ?_))
          | ((refine And.intro (by intro y hy; simp at hy; subst hy; rfl) ?_))
          | (refine Br.tt ?_)
          | (refine Br.ff ?_)
          | (refine Br.dec (fun h => ?_) (fun h => ?_)) <;> try (exfalso; omega)
          | (refine Br.neg ?_)
          | (refine Br.mk (fun h => ?_) (fun h => ?_))
          | (refine And.intro rfl ?_)
          | (refine And.intro (by omega) ?_)
          | (refine ⟨_, Or.inl ⟨⟨by omega, by omega⟩, rfl⟩, ?_⟩)
          | (refine And.intro (by simp only [lens_all, its_len]; first | done | omega) ?_)
          | (refine And.intro (Nat.le_refl _) ?_)
          | fail
        conv => whnf
        rw [frz_its]
        rfl

def ir_fretworkref12_Select : IR :=
(.seq (.reg (⟨(some 2), .bx (.t 0), none⟩ ::⟨(some 4), .al [.int .i64 0, .nils], none⟩ ::⟨(some 5), .mv (.c (.int .i64 0)), none⟩ :: [])) (.seq (.reg (⟨(some 10), .ld 2 true (.t 2), none⟩ ::⟨(some 11), .call (.c (.fn 62 [])) [(.t 10)], none⟩ ::⟨none, .st 2 (.t 2) (.t 11), none⟩ :: [])) (.seq (.seq (.reg (⟨(some 12), .mv (.t 1), none⟩ ::⟨(some 13), .ln (.t 12), none⟩ ::⟨(some 14), .bin .gtr (.t 13) (.c (.int .i64 4096)), none⟩ :: [])) (.cond (.t 14) (.seq (.reg (⟨(some 15), .bld [.int .i64 0, .nils] [], none⟩ ::⟨none, .st 2 (.t 4) (.t 15), none⟩ ::⟨(some 5), .mv (.c (.int .i64 5)), none⟩ :: [])) .ret) .skip)) (.seq (.reg (⟨(some 16), .mv (.t 1), none⟩ ::⟨(some 17), .ln (.t 16), none⟩ ::⟨(some 18), .bld [.int .i64 0, .nils] [(0, 1, (.t 17))], none⟩ ::⟨(some 6), .al [.int .i64 0, .nils], none⟩ ::⟨none, .st 2 (.t 6) (.t 18), none⟩ :: [])) (.seq (.seq (.reg (⟨(some 7), .mv (.c (.int .i64 0)), none⟩ :: [])) (.block 0 (.loop (.seq (.seq (.reg (⟨(some 19), .mv (.t 7), none⟩ ::⟨(some 20), .mv (.t 1), none⟩ ::⟨(some 21), .ln (.t 20), none⟩ ::⟨(some 22), .bin .lss (.t 19) (.t 21), none⟩ :: [])) (.cond (.t 22) .skip (.exit 0))) (.seq (.block 1 (.seq (.seq (.draw (⟨(some 25), .mv (.t 1), none⟩ ::⟨(some 26), .mv (.t 7), none⟩ ::⟨(some 27), .ia 1 (.t 25) (.t 26), none⟩ ::⟨(some 28), .ld 1 false (.t 27), none⟩ ::⟨(some 29), .bin .lss (.t 28) (.c (.int .i64 0)), none⟩ ::⟨(some 30), .mv (.t 29), none⟩ ::⟨(some 31), .mv (.t 1), some (30, false)⟩ ::⟨(some 32), .mv (.t 7), some (30, false)⟩ ::⟨(some 33), .ia 1 (.t 31) (.t 32), some (30, false)⟩ ::⟨(some 34), .ld 1 false (.t 33), some (30, false)⟩ ::⟨(some 35), .fa 0 (.t 2), some (30, false)⟩ ::⟨(some 36), .ld 1 false (.t 35), some (30, false)⟩ :: []) (⟨(some 37), .bin .geq (.t 34) (.t 36), some (30, false)⟩ ::⟨(some 38), .pick (.t 30) (.c (.bool true)) (.t 37), none⟩ :: [])) (.cond (.t 38) (.seq (.reg (⟨(some 39), .bld [.int .i64 0, .nils] [], none⟩ ::⟨none, .st 2 (.t 4) (.t 39), none⟩ ::⟨(some 5), .mv (.c (.int .i64 3)), none⟩ :: [])) .ret) .skip)) (.seq (.draw (⟨(some 41), .ld 2 true (.t 2), none⟩ ::⟨(some 42), .mv (.t 1), none⟩ ::⟨(some 43), .mv (.t 7), none⟩ ::⟨(some 44), .ia 1 (.t 42) (.t 43), none⟩ ::⟨(some 45), .ld 1 false (.t 44), none⟩ ::⟨(some 46), .call (.c (.fn 50 [])) [(.t 41), (.t 45)], none⟩ ::⟨(some 40), .mv (.t 46), none⟩ ::⟨(some 47), .ex 0 (.t 40), none⟩ ::⟨(some 48), .ex 1 (.t 40), none⟩ ::⟨(some 8), .mv (.t 47), none⟩ :: []) (⟨(some 9), .mv (.t 48), none⟩ :: [])) (.seq (.reg (⟨(some 49), .mv (.t 9), none⟩ :: [])) (.cond (.t 49) (.reg (⟨(some 50), .fa 1 (.t 6), none⟩ ::⟨(some 51), .ld 1 false (.t 50), none⟩ ::⟨(some 52), .mv (.t 7), none⟩ ::⟨(some 53), .mv (.t 8), none⟩ ::⟨(some 54), .bld [.int .i64 0, .int .i64 0] [(0, 1, (.t 52)), (1, 1, (.t 53))], none⟩ ::⟨(some 55), .bsl 1 2 [.int .i64 0, .int .i64 0] [(0, (.t 54))], none⟩ ::⟨(some 56), .ap 2 16 (.t 51) (.t 55), none⟩ ::⟨(some 57), .fa 1 (.t 6), none⟩ ::⟨none, .st 1 (.t 57) (.t 56), none⟩ :: [])) .skip))))) (.reg (⟨(some 23), .mv (.t 7), none⟩ ::⟨(some 24), .bin .add (.t 23) (.c (.int .i64 1)), none⟩ ::⟨(some 7), .mv (.t 24), none⟩ :: []))))))) (.seq (.reg (⟨(some 58), .ld 2 true (.t 6), none⟩ ::⟨none, .st 2 (.t 4) (.t 58), none⟩ ::⟨(some 5), .mv (.c (.int .i64 0)), none⟩ :: [])) .ret))))))
theorem cd_fretworkref12_Select : Code1 Try.prog 43 59 ir_fretworkref12_Select [.c 2 true 4, .t 5] := ⟨Try.call43, _, _, Try.func43, rfl, by kernel_rfl, by kernel_rfl, by kernel_rfl, by kernel_rfl⟩

set_option maxHeartbeats 4000000 in
theorem fs_r12Select (n : Int) (l : List (Int × Int)) (at' : List Int) (hl : l.length ≤ 400000000) : FS Try.prog 43 [VC n l, Z at'] (VE (selR n l at')) := by
  refine fs_of_cvc mixed cd_fretworkref12_Select (by simp) ?_
  have c1 := fs_r9Sure n l (by omega)
  have hok := okV n l
  have s1 := sl_len n l
  have c3 : ∀ p, FS Try.prog 50 [VC (sn n l) (sl n l), .int .i64 p] (.tup [.int .i64 ((gt (sl n l) p).getD 0), .bool (gt (sl n l) p).isSome]) := fun p => by
    have := fs_r9Get (sn n l) (sl n l) p (by omega)
    rwa [hok.sl] at this
  obtain ⟨t, ht⟩ : ∃ t, selR n l at' = t := ⟨_, rfl⟩
  rw [ht]
  unfold selR at ht
  generalize sn n l = N1 at *
  generalize sl n l = a at *
  have hzl := zs_len at'
  by_cases h5 : 4096 < at'.length
  · rw [if_pos h5] at ht
    subst ht
    repeat' (conv => whnf); first
      | ((refine Or.inl ⟨by rfl, _, c1, ?_⟩))
      | ((refine Br.beq (by rfl) ?_))
      | ((refine Br.bne (by rfl) ?_))
      | ((refine And.intro (Or.inl (Nat.zero_le _)) ?_))
      | ((refine And.intro (by intro y hy; simp at hy; subst hy; rfl) ?_))
      | (refine Br.tt ?_)
      | (refine Br.ff ?_)
      | (refine Br.dec (fun h => ?_) (fun h => ?_)) <;> try (exfalso; omega)
      | (refine Br.neg ?_)
      | (refine Br.mk (fun h => ?_) (fun h => ?_))
      | (refine And.intro rfl ?_)
      | (refine And.intro (by omega) ?_)
      | (refine ⟨_, Or.inl ⟨⟨by omega, by omega⟩, rfl⟩, ?_⟩)
      | (refine And.intro (by simp only [lens_all]; first | done | omega) ?_)
      | (refine And.intro (Nat.le_refl _) ?_)
      | fail
    exact ⟨⟨rfl, rfl, trivial⟩, rfl, trivial⟩
  · rw [if_neg h5] at ht
    repeat' (conv => whnf); first
      | ((refine Or.inl ⟨by rfl, _, c1, ?_⟩))
      | ((refine Br.beq (by rfl) ?_))
      | ((refine Br.bne (by rfl) ?_))
      | ((refine And.intro (Or.inl (Nat.zero_le _)) ?_))
      | ((refine And.intro (by intro y hy; simp at hy; subst hy; rfl) ?_))
      | (refine Br.tt ?_)
      | (refine Br.ff ?_)
      | (refine Br.dec (fun h => ?_) (fun h => ?_)) <;> try (exfalso; omega)
      | (refine Br.neg ?_)
      | (refine Br.mk (fun h => ?_) (fun h => ?_))
      | (refine And.intro rfl ?_)
      | (refine And.intro (by omega) ?_)
      | (refine ⟨_, Or.inl ⟨⟨by omega, by omega⟩, rfl⟩, ?_⟩)
      | (refine And.intro (by simp only [lens_all]; first | done | omega) ?_)
      | (refine And.intro (Nat.le_refl _) ?_)
      | fail
    refine ⟨Nat, fun j => j ≤ at'.length ∧ ∀ i, i < j → outB N1 (at'.getD i 0) = false, fun j => [(1, Z at'), (2, .ptr 0 0 0 0), (4, .ptr 1 0 0 0), (6, .ptr 2 0 0 0), (7, .int .i64 (j : Int))], fun j => [.vars [.int .i64 N1, IL a], .vars [.int .i64 0, .nils], .vars [.int .i64 (at'.length : Int), .osl 3 2 0 (selK a at' j).length], .arr 2 (its (selK a at' j))], fun _ => none, fun j => at'.length - j,
      ⟨0, ⟨Nat.zero_le _, fun i hi => by omega⟩, ⟨rfl, rfl, rfl, rfl, rfl, trivial⟩, ⟨⟨rfl, rfl, trivial⟩, ⟨rfl, rfl, trivial⟩, ⟨?_, ⟨Nat.le_refl _, rfl, rfl⟩, trivial⟩, rfl, trivial⟩, rfl⟩, fun j hj => ?_⟩
    · exact congrArg (SV.int .i64) (congrArg Int.ofNat hzl)
    obtain ⟨hj, hjo⟩ := hj
    have hsl := selK_le a at' j
    by_cases hja : j < at'.length
    · obtain ⟨p, hp⟩ : ∃ p, at'.getD j 0 = p := ⟨_, rfl⟩
      have hst := selK_succ a at' j
      have hout : outB N1 p = true → (0, [], 3) = t := fun h => by
        rw [← ht, if_pos]
        exact List.any_eq_true.2 ⟨p, by rw [← hp]; simp [hja], h⟩
      have hmore : outB N1 p = false → ∀ i, i < j + 1 → outB N1 (at'.getD i 0) = false := fun h i hi => by
        rcases Nat.lt_or_ge i j with h' | h'
        · exact hjo i h'
        · obtain rfl : i = j := by omega
          rw [hp]; exact h
      rw [hp] at hst
      have c4 := c3 p
      cases hg : gt a p with
      | none =>
        rw [hg] at hst c4
        repeat' (conv => whnf); first
          | ((refine zs_go (i := j) (by omega) hp ?_))
          | ((refine Or.inl ⟨by rfl, _, c4, ?_⟩))
          | ((refine Br.beq (by rfl) ?_))
          | ((refine Br.bne (by rfl) ?_))
          | ((refine And.intro (Or.inl (Nat.zero_le _)) ?_))
          | ((refine And.intro (by intro y hy; simp at hy; subst hy; rfl) ?_))
          | (refine Br.tt ?_)
          | (refine Br.ff ?_)
          | (refine Br.dec (fun h => ?_) (fun h => ?_)) <;> try (exfalso; omega)
          | (refine Br.neg ?_)
          | (refine Br.mk (fun h => ?_) (fun h => ?_))
          | (refine And.intro rfl ?_)
          | (refine And.intro (by omega) ?_)
          | (refine ⟨_, Or.inl ⟨⟨by omega, by omega⟩, rfl⟩, ?_⟩)
          | (refine And.intro (by simp only [lens_all]; first | done | omega) ?_)
          | (refine And.intro (Nat.le_refl _) ?_)
          | fail
        · obtain rfl := hout (by unfold outB; rw [decide_eq_true (show p < 0 by omega)]; rfl)
          exact ⟨⟨rfl, rfl, trivial⟩, rfl, trivial⟩
        · obtain rfl := hout (by unfold outB; rw [decide_eq_true (show N1 ≤ p by omega), Bool.or_true])
          exact ⟨⟨rfl, rfl, trivial⟩, rfl, trivial⟩
        · refine ⟨j + 1, ⟨by omega, hmore (by unfold outB; rw [decide_eq_false (show ¬ p < 0 by omega), decide_eq_false (show ¬ N1 ≤ p by omega)]; rfl)⟩, (show at'.length - (j + 1) < at'.length - j by omega), ⟨rfl, rfl, rfl, rfl, rfl, trivial⟩, ⟨⟨rfl, rfl, trivial⟩, ⟨rfl, rfl, trivial⟩, ⟨rfl, ?_, trivial⟩, ?_, trivial⟩, rfl⟩
          · rw [hst]; exact congrArg (SV.osl 3 2 0) (by simp)
          · rw [hst]; exact congrArg (fun l => Blk.arr 2 (its l)) (by simp)
      | some v =>
        rw [hg] at hst c4
        repeat' (conv => whnf); first
          | ((refine zs_go (i := j) (by omega) hp ?_))
          | ((refine Or.inl ⟨by rfl, _, c4, ?_⟩))
          | ((refine Br.beq (by rfl) ?_))
          | ((refine Br.bne (by rfl) ?_))
          | ((refine And.intro (Or.inl (Nat.zero_le _)) ?_))
          | ((refine And.intro (by intro y hy; simp at hy; subst hy; rfl) ?_))
          | (refine Br.tt ?_)
          | (refine Br.ff ?_)
          | (refine Br.dec (fun h => ?_) (fun h => ?_)) <;> try (exfalso; omega)
          | (refine Br.neg ?_)
          | (refine Br.mk (fun h => ?_) (fun h => ?_))
          | (refine And.intro rfl ?_)
          | (refine And.intro (by omega) ?_)
          | (refine ⟨_, Or.inl ⟨⟨by omega, by omega⟩, rfl⟩, ?_⟩)
          | (refine And.intro (by simp only [lens_all, its_len, zs_len]; first | done | omega) ?_)
          | (refine And.intro (Nat.le_refl _) ?_)
          | fail
        · obtain rfl := hout (by unfold outB; rw [decide_eq_true (show p < 0 by omega)]; rfl)
          exact ⟨⟨rfl, rfl, trivial⟩, rfl, trivial⟩
        · obtain rfl := hout (by unfold outB; rw [decide_eq_true (show N1 ≤ p by omega), Bool.or_true])
          exact ⟨⟨rfl, rfl, trivial⟩, rfl, trivial⟩
        · refine ⟨j + 1, ⟨by omega, hmore (by unfold outB; rw [decide_eq_false (show ¬ p < 0 by omega), decide_eq_false (show ¬ N1 ≤ p by omega)]; rfl)⟩, (show at'.length - (j + 1) < at'.length - j by omega), ⟨rfl, rfl, rfl, rfl, rfl, trivial⟩, ⟨⟨rfl, rfl, trivial⟩, ⟨rfl, rfl, trivial⟩, ⟨rfl, ?_, trivial⟩, ?_, trivial⟩, rfl⟩
          · rw [hst]; exact congrArg (SV.osl 3 2 0) (by simp)
          · rw [hst, its_append]; rfl
    · obtain rfl : j = at'.length := by omega
      have hno : ¬ at'.any (outB N1) = true := fun h => by
        obtain ⟨x, hx, hx2⟩ := List.any_eq_true.1 h
        obtain ⟨i, hi, rfl⟩ := List.mem_iff_getElem.1 hx
        have := hjo i hi
        rw [show at'.getD i 0 = at'[i] by simp [hi], hx2] at this
        cases this
      rw [if_neg hno] at ht
      subst ht
      repeat' (conv => whnf); first
        | ((refine Br.beq (by rfl) ?_))
        | ((refine Br.bne (by rfl) ?_))
        | ((refine And.intro (Or.inl (Nat.zero_le _)) ?_))
        | ((refine And.intro (by intro y hy; simp at hy; subst hy; rfl) ?_))
        | (refine Br.tt ?_)
        | (refine Br.ff ?_)
        | (refine Br.dec (fun h => ?_) (fun h => ?_)) <;> try (exfalso; omega)
        | (refine Br.neg ?_)
        | (refine Br.mk (fun h => ?_) (fun h => ?_))
        | (refine And.intro rfl ?_)
        | (refine And.intro (by omega) ?_)
        | (refine ⟨_, Or.inl ⟨⟨by omega, by omega⟩, rfl⟩, ?_⟩)
        | (refine And.intro (by simp only [lens_all, its_len]; first | done | omega) ?_)
        | (refine And.intro (Nat.le_refl _) ?_)
        | fail
      conv => whnf
      rw [frz_its]
      rfl
end
end Go.Proofs.Ytckbagpdahhiiaa
