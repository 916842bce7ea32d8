/- Sparse vectors: the document's Put; Over. -/
import Derived.Test.YtckbagpdahhiiaaV6
namespace Go.Proofs.Ytckbagpdahhiiaa
section
open Go.RowKit
attribute [local irreducible] FS FO IT HS

/-- One item more: what is put out, and whether the new item has been. -/
def pStep (p v : Int) (s : List (Int × Int) × Bool) (x : Int × Int) : List (Int × Int) × Bool :=
  (let o := if s.2 = false ∧ p ≤ x.1 then s.1 ++ [(p, v)] else s.1
   if x.1 = p then o else o ++ [x], s.2 || decide (p ≤ x.1))
def pEnd (p v : Int) (s : List (Int × Int) × Bool) : List (Int × Int) := if s.2 = true then s.1 else s.1 ++ [(p, v)]
def putR (n : Int) (l : List (Int × Int)) (p v : Int) : List (Int × Int) := pEnd p v (l.foldl (pStep p v) ([], decide (p < 0) || decide (n ≤ p)))
theorem pStep_a {p v : Int} {o : List (Int × Int)} {x : Int × Int} (h : p ≤ x.1) (h' : x.1 ≠ p) : pStep p v (o, false) x = (o ++ [(p, v)] ++ [x], true) := by simp [pStep, h, h']
theorem pStep_b {p v : Int} {o : List (Int × Int)} {x : Int × Int} (h : x.1 = p) : pStep p v (o, false) x = (o ++ [(p, v)], true) := by simp [pStep, h]
theorem pStep_c {p v : Int} {o : List (Int × Int)} {x : Int × Int} (h : ¬ p ≤ x.1) : pStep p v (o, false) x = (o ++ [x], false) := by
  have : ¬ x.1 = p := by omega
  simp [pStep, h, this]
theorem pStep_d {p v : Int} {o : List (Int × Int)} {x : Int × Int} (h : x.1 ≠ p) : pStep p v (o, true) x = (o ++ [x], true) := by simp [pStep, h]
theorem pStep_e {p v : Int} {o : List (Int × Int)} {x : Int × Int} (h : x.1 = p) : pStep p v (o, true) x = (o, true) := by simp [pStep, h]
theorem foldl_more {α : Type} {f : α → Int × Int → α} {z : α} {l : List (Int × Int)} {k : Nat} (h : k < l.length) : (l.take (k + 1)).foldl f z = f ((l.take k).foldl f z) (l.getD k (0, 0)) := by
  rw [vtake_more h, List.foldl_append]; rfl

def ir_fretworkref09_Put : IR :=
(.seq (.reg (⟨(some 3), .bx (.t 0), none⟩ ::⟨(some 6), .al [.int .i64 0, .nils], none⟩ :: [])) (.seq (.reg (⟨(some 10), .ld 2 true (.t 3), none⟩ ::⟨(some 11), .call (.c (.fn 62 [])) [(.t 10)], none⟩ ::⟨none, .st 2 (.t 3) (.t 11), none⟩ :: [])) (.seq (.reg (⟨(some 12), .fa 0 (.t 3), none⟩ ::⟨(some 13), .ld 1 false (.t 12), none⟩ ::⟨(some 14), .bld [.int .i64 0, .nils] [(0, 1, (.t 13))], none⟩ ::⟨(some 7), .al [.int .i64 0, .nils], none⟩ ::⟨none, .st 2 (.t 7) (.t 14), none⟩ :: [])) (.seq (.reg (⟨(some 15), .mv (.t 1), none⟩ ::⟨(some 16), .bin .lss (.t 15) (.c (.int .i64 0)), none⟩ ::⟨(some 17), .mv (.t 16), none⟩ ::⟨(some 18), .mv (.t 1), some (17, false)⟩ ::⟨(some 19), .fa 0 (.t 3), some (17, false)⟩ ::⟨(some 20), .ld 1 false (.t 19), some (17, false)⟩ ::⟨(some 21), .bin .geq (.t 18) (.t 20), some (17, false)⟩ ::⟨(some 22), .pick (.t 17) (.c (.bool true)) (.t 21), none⟩ ::⟨(some 8), .mv (.t 22), none⟩ :: [])) (.seq (.seq (.reg (⟨(some 9), .mv (.c (.int .i64 0)), none⟩ :: [])) (.block 0 (.loop (.seq (.seq (.reg (⟨(some 23), .mv (.t 9), none⟩ ::⟨(some 24), .fa 1 (.t 3), none⟩ ::⟨(some 25), .ld 1 false (.t 24), none⟩ ::⟨(some 26), .ln (.t 25), none⟩ ::⟨(some 27), .bin .lss (.t 23) (.t 26), none⟩ :: [])) (.cond (.t 27) .skip (.exit 0))) (.seq (.block 1 (.seq (.seq (.reg (⟨(some 30), .mv (.t 8), none⟩ ::⟨(some 31), .un .not (.t 30), none⟩ ::⟨(some 32), .mv (.t 31), none⟩ ::⟨(some 33), .fa 1 (.t 3), some (32, true)⟩ ::⟨(some 34), .ld 1 false (.t 33), some (32, true)⟩ ::⟨(some 35), .mv (.t 9), some (32, true)⟩ ::⟨(some 36), .ia 2 (.t 34) (.t 35), some (32, true)⟩ ::⟨(some 37), .fa 0 (.t 36), some (32, true)⟩ ::⟨(some 38), .ld 1 false (.t 37), some (32, true)⟩ ::⟨(some 39), .mv (.t 1), some (32, true)⟩ ::⟨(some 40), .bin .geq (.t 38) (.t 39), some (32, true)⟩ ::⟨(some 41), .pick (.t 32) (.t 40) (.c (.bool false)), none⟩ :: [])) (.cond (.t 41) (.seq (.reg (⟨(some 42), .fa 1 (.t 7), none⟩ ::⟨(some 43), .ld 1 false (.t 42), none⟩ ::⟨(some 44), .mv (.t 1), none⟩ ::⟨(some 45), .mv (.t 2), none⟩ ::⟨(some 46), .bld [.int .i64 0, .int .i64 0] [(0, 1, (.t 44)), (1, 1, (.t 45))], none⟩ ::⟨(some 47), .bsl 1 2 [.int .i64 0, .int .i64 0] [(0, (.t 46))], none⟩ ::⟨(some 48), .ap 2 16 (.t 43) (.t 47), none⟩ ::⟨(some 49), .fa 1 (.t 7), none⟩ ::⟨none, .st 1 (.t 49) (.t 48), none⟩ :: [])) (.reg (⟨(some 8), .mv (.c (.bool true)), none⟩ :: []))) .skip)) (.seq (.reg (⟨(some 50), .fa 1 (.t 3), none⟩ ::⟨(some 51), .ld 1 false (.t 50), none⟩ ::⟨(some 52), .mv (.t 9), none⟩ ::⟨(some 53), .ia 2 (.t 51) (.t 52), none⟩ ::⟨(some 54), .fa 0 (.t 53), none⟩ ::⟨(some 55), .ld 1 false (.t 54), none⟩ ::⟨(some 56), .mv (.t 1), none⟩ ::⟨(some 57), .bin .neq (.t 55) (.t 56), none⟩ :: [])) (.cond (.t 57) (.draw (⟨(some 58), .fa 1 (.t 7), none⟩ ::⟨(some 59), .ld 1 false (.t 58), none⟩ ::⟨(some 60), .fa 1 (.t 3), none⟩ ::⟨(some 61), .ld 1 false (.t 60), none⟩ ::⟨(some 62), .mv (.t 9), none⟩ ::⟨(some 63), .ia 2 (.t 61) (.t 62), none⟩ ::⟨(some 64), .ld 2 true (.t 63), none⟩ ::⟨(some 65), .bsl 1 2 [.int .i64 0, .int .i64 0] [(0, (.t 64))], none⟩ :: []) (⟨(some 66), .ap 2 16 (.t 59) (.t 65), none⟩ ::⟨(some 67), .fa 1 (.t 7), none⟩ ::⟨none, .st 1 (.t 67) (.t 66), none⟩ :: [])) .skip)))) (.reg (⟨(some 28), .mv (.t 9), none⟩ ::⟨(some 29), .bin .add (.t 28) (.c (.int .i64 1)), none⟩ ::⟨(some 9), .mv (.t 29), none⟩ :: []))))))) (.seq (.seq (.reg (⟨(some 68), .mv (.t 8), none⟩ ::⟨(some 69), .un .not (.t 68), none⟩ :: [])) (.cond (.t 69) (.reg (⟨(some 70), .fa 1 (.t 7), none⟩ ::⟨(some 71), .ld 1 false (.t 70), none⟩ ::⟨(some 72), .mv (.t 1), none⟩ ::⟨(some 73), .mv (.t 2), none⟩ ::⟨(some 74), .bld [.int .i64 0, .int .i64 0] [(0, 1, (.t 72)), (1, 1, (.t 73))], none⟩ ::⟨(some 75), .bsl 1 2 [.int .i64 0, .int .i64 0] [(0, (.t 74))], none⟩ ::⟨(some 76), .ap 2 16 (.t 71) (.t 75), none⟩ ::⟨(some 77), .fa 1 (.t 7), none⟩ ::⟨none, .st 1 (.t 77) (.t 76), none⟩ :: [])) .skip)) (.seq (.reg (⟨(some 78), .ld 2 true (.t 7), none⟩ ::⟨none, .st 2 (.t 6) (.t 78), none⟩ :: [])) .ret)))))))
theorem cd_fretworkref09_Put : Code1 Try.prog 69 79 ir_fretworkref09_Put [.c 2 true 6] := ⟨Try.call69, _, _, Try.func69, rfl, by kernel_rfl, by kernel_rfl, by kernel_rfl, by kernel_rfl⟩

set_option maxHeartbeats 4000000 in
theorem fs_r9Put (n : Int) (l : List (Int × Int)) (p v : Int) (hl : l.length ≤ 900000000) : FS Try.prog 69 [VC n l, .int .i64 p, .int .i64 v] (VC (sn n l) (putR (sn n l) (sl n l) p v)) := by
  refine fs_of_cvc mixed cd_fretworkref09_Put (by simp) ?_
  have c1 := fs_r9Sure n l (by omega)
  have s1 := sl_len n l
  generalize sn n l = N1 at *
  generalize sl n l = a at *
  have hal := its_len a
  obtain ⟨d0, hd0⟩ : ∃ d0, (decide (p < 0) || decide (N1 ≤ p)) = d0 := ⟨_, rfl⟩
  have hd1 : p < 0 → true = d0 := fun h => by rw [← hd0, decide_eq_true h]; rfl
  have hd2 : ¬ p < 0 → decide (N1 ≤ p) = d0 := fun h => by rw [← hd0, decide_eq_false h]; rfl
  obtain ⟨t, ht⟩ : ∃ t, putR N1 a p v = t := ⟨_, rfl⟩
  rw [ht]
  unfold putR at ht
  rw [hd0] at ht
  repeat' (conv => whnf); first
    | ((refine Or.inl ⟨by rfl, _, c1, ?_⟩))
    | ((refine Br.beq (by rfl) ?_))
    | ((refine Br.bne (by rfl) ?_))
    | ((refine And.intro (Or.inl (Nat.zero_le _)) ?_))
    | ((refine And.intro (by intro y hy; simp at hy; subst hy; rfl) ?_))
    | (refine Br.tt ?_)
    | (refine Br.ff ?_)
    | (refine Br.dec (fun h => ?_) (fun h => ?_)) <;> try (exfalso; omega)
    | (refine Br.neg ?_)
    | (refine Br.mk (fun h => ?_) (fun h => ?_))
    | (refine And.intro rfl ?_)
    | (refine And.intro (by omega) ?_)
    | (refine ⟨_, Or.inl ⟨⟨by omega, by omega⟩, rfl⟩, ?_⟩)
    | (refine And.intro (by simp only [lens_all]; first | done | omega) ?_)
    | (refine And.intro (Nat.le_refl _) ?_)
    | fail
  all_goals
    refine ⟨Nat × List (Int × Int) × Bool, fun ⟨k, o, d⟩ => k ≤ a.length ∧ (a.take k).foldl (pStep p v) ([], d0) = (o, d) ∧ o.length ≤ k + d.toNat, fun ⟨k, o, d⟩ => [(1, .int .i64 p), (2, .int .i64 v), (3, .ptr 0 0 0 0), (6, .ptr 1 0 0 0), (7, .ptr 2 0 0 0), (8, .bool d), (9, .int .i64 (k : Int))], fun ⟨k, o, d⟩ => [.vars [.int .i64 N1, IL a], .vars [.int .i64 0, .nils], .vars [.int .i64 N1, .osl 3 2 0 o.length], .arr 2 (its o)], fun _ => none, fun ⟨k, o, d⟩ => a.length - k,
      ⟨(0, [], d0), ⟨Nat.zero_le _, rfl, Nat.zero_le _⟩, ⟨rfl, rfl, rfl, rfl, rfl, ?_, rfl, trivial⟩, ⟨⟨rfl, rfl, trivial⟩, ⟨rfl, rfl, trivial⟩, ⟨rfl, ⟨Nat.le_refl _, rfl, rfl⟩, trivial⟩, rfl, trivial⟩, rfl⟩, fun ⟨k, o, d⟩ hk => ?_⟩
    · first
        | exact congrArg SV.bool (hd1 (by omega))
        | exact congrArg SV.bool (hd2 (by omega))
    obtain ⟨hk1, hk2, hk3⟩ := hk
    have hol := its_len o
    by_cases hka : k < a.length
    · have hst := foldl_more (f := pStep p v) (z := ([], d0)) hka
      rw [hk2] at hst
      cases d
      · have hk3 : o.length ≤ k + 0 := hk3
        repeat' (conv => whnf); first
          | ((refine its_go (i := k) (by omega) ?_))
          | ((refine Br.beq (by rfl) ?_))
          | ((refine Br.bne (by rfl) ?_))
          | ((refine And.intro (Or.inl (Nat.zero_le _)) ?_))
          | ((refine And.intro (by intro y hy; simp at hy; subst hy; rfl) ?_))
          | (refine Br.tt ?_)
          | (refine Br.ff ?_)
          | (refine Br.dec (fun h => ?_) (fun h => ?_)) <;> try (exfalso; omega)
          | (refine Br.neg ?_)
          | (refine Br.mk (fun h => ?_) (fun h => ?_))
          | (refine And.intro rfl ?_)
          | (refine And.intro (by omega) ?_)
          | (refine ⟨_, Or.inl ⟨⟨by omega, by omega⟩, rfl⟩, ?_⟩)
          | (refine And.intro (by simp only [lens_all, its_len]; first | done | omega) ?_)
          | (refine And.intro (Nat.le_refl _) ?_)
          | fail
        · refine ⟨(k + 1, o ++ [(p, v)] ++ [a.getD k (0, 0)], true), ⟨by omega, hst.trans (pStep_a (by assumption) h), (show (o ++ [(p, v)] ++ [a.getD k (0, 0)]).length ≤ k + 1 + 1 by simp; omega)⟩, (show a.length - (k + 1) < a.length - k by omega), ⟨rfl, rfl, rfl, rfl, rfl, rfl, rfl, trivial⟩, ⟨⟨rfl, rfl, trivial⟩, ⟨rfl, rfl, trivial⟩, ⟨rfl, ?_, trivial⟩, ?_, trivial⟩, rfl⟩
          · exact congrArg (SV.osl 3 2 0) (by simp)
          · refine congrArg (Blk.arr 2) ?_; rw [its_append, its_append]; rfl
        · refine ⟨(k + 1, o ++ [(p, v)], true), ⟨by omega, hst.trans (pStep_b (by omega)), (show (o ++ [(p, v)]).length ≤ k + 1 + 1 by simp; omega)⟩, (show a.length - (k + 1) < a.length - k by omega), ⟨rfl, rfl, rfl, rfl, rfl, rfl, rfl, trivial⟩, ⟨⟨rfl, rfl, trivial⟩, ⟨rfl, rfl, trivial⟩, ⟨rfl, ?_, trivial⟩, ?_, trivial⟩, rfl⟩
          · exact congrArg (SV.osl 3 2 0) (by simp)
          · refine congrArg (Blk.arr 2) ?_; rw [its_append]; rfl
        · refine ⟨(k + 1, o ++ [a.getD k (0, 0)], false), ⟨by omega, hst.trans (pStep_c (by omega)), (show (o ++ [a.getD k (0, 0)]).length ≤ k + 1 + 0 by simp; omega)⟩, (show a.length - (k + 1) < a.length - k by omega), ⟨rfl, rfl, rfl, rfl, rfl, rfl, rfl, trivial⟩, ⟨⟨rfl, rfl, trivial⟩, ⟨rfl, rfl, trivial⟩, ⟨rfl, ?_, trivial⟩, ?_, trivial⟩, rfl⟩
          · exact congrArg (SV.osl 3 2 0) (by simp)
          · refine congrArg (Blk.arr 2) ?_; rw [its_append]; rfl
      · have hk3 : o.length ≤ k + 1 := hk3
        repeat' (conv => whnf); first
          | ((refine its_go (i := k) (by omega) ?_))
          | ((refine Br.beq (by rfl) ?_))
          | ((refine Br.bne (by rfl) ?_))
          | ((refine And.intro (Or.inl (Nat.zero_le _)) ?_))
          | ((refine And.intro (by intro y hy; simp at hy; subst hy; rfl) ?_))
          | (refine Br.tt ?_)
          | (refine Br.ff ?_)
          | (refine Br.dec (fun h => ?_) (fun h => ?_)) <;> try (exfalso; omega)
          | (refine Br.neg ?_)
          | (refine Br.mk (fun h => ?_) (fun h => ?_))
          | (refine And.intro rfl ?_)
          | (refine And.intro (by omega) ?_)
          | (refine ⟨_, Or.inl ⟨⟨by omega, by omega⟩, rfl⟩, ?_⟩)
          | (refine And.intro (by simp only [lens_all]; first | done | omega) ?_)
          | (refine And.intro (Nat.le_refl _) ?_)
          | fail
        · refine ⟨(k + 1, o ++ [a.getD k (0, 0)], true), ⟨by omega, hst.trans (pStep_d h), (show (o ++ [a.getD k (0, 0)]).length ≤ k + 1 + 1 by simp; omega)⟩, (show a.length - (k + 1) < a.length - k by omega), ⟨rfl, rfl, rfl, rfl, rfl, rfl, rfl, trivial⟩, ⟨⟨rfl, rfl, trivial⟩, ⟨rfl, rfl, trivial⟩, ⟨rfl, ?_, trivial⟩, ?_, trivial⟩, rfl⟩
          · exact congrArg (SV.osl 3 2 0) (by simp)
          · refine congrArg (Blk.arr 2) ?_; rw [its_append]; rfl
        · refine ⟨(k + 1, o, true), ⟨by omega, hst.trans (pStep_e (by omega)), (show o.length ≤ k + 1 + 1 by omega)⟩, (show a.length - (k + 1) < a.length - k by omega), ⟨rfl, rfl, rfl, rfl, rfl, rfl, rfl, trivial⟩, ⟨⟨rfl, rfl, trivial⟩, ⟨rfl, rfl, trivial⟩, ⟨rfl, ?_, trivial⟩, ?_, trivial⟩, rfl⟩
          · exact rfl
          · exact rfl
    · have hkn : a.take k = a := List.take_of_length_le (by omega)
      rw [hkn] at hk2
      rw [hk2] at ht
      cases d
      · have hk3 : o.length ≤ k + 0 := hk3
        have ht' : o ++ [(p, v)] = t := ht
        subst ht'
        repeat' (conv => whnf); first
          | ((refine Br.beq (by rfl) ?_))
          | ((refine Br.bne (by rfl) ?_))
          | ((refine And.intro (Or.inl (Nat.zero_le _)) ?_))
          | ((refine And.intro (by intro y hy; simp at hy; subst hy; rfl) ?_))
          | (refine Br.tt ?_)
          | (refine Br.ff ?_)
          | (refine Br.dec (fun h => ?_) (fun h => ?_)) <;> try (exfalso; omega)
          | (refine Br.neg ?_)
          | (refine Br.mk (fun h => ?_) (fun h => ?_))
          | (refine And.intro rfl ?_)
          | (refine And.intro (by omega) ?_)
          | (refine ⟨_, Or.inl ⟨⟨by omega, by omega⟩, rfl⟩, ?_⟩)
          | (refine And.intro (by simp only [lens_all, its_len]; first | done | omega) ?_)
          | (refine And.intro (Nat.le_refl _) ?_)
          | fail
        conv => whnf
        have e1 : its o ++ [[SV.int .i64 p, SV.int .i64 v]] = its (o ++ [(p, v)]) := by rw [its_append]; rfl
        have e2 : o.length + 1 = (o ++ [(p, v)]).length := by simp
        show SV.agg [.int .i64 N1, .slc 2 (List.take (o.length + 1) (List.drop 0 (its o ++ [[SV.int .i64 p, SV.int .i64 v]])))] = _
        rw [e1, e2, frz_its]
        rfl
      · have hk3 : o.length ≤ k + 1 := hk3
        have ht' : o = t := ht
        subst ht'
        repeat' (conv => whnf); first
          | ((refine Br.beq (by rfl) ?_))
          | ((refine Br.bne (by rfl) ?_))
          | ((refine And.intro (Or.inl (Nat.zero_le _)) ?_))
          | ((refine And.intro (by intro y hy; simp at hy; subst hy; rfl) ?_))
          | (refine Br.tt ?_)
          | (refine Br.ff ?_)
          | (refine Br.dec (fun h => ?_) (fun h => ?_)) <;> try (exfalso; omega)
          | (refine Br.neg ?_)
          | (refine Br.mk (fun h => ?_) (fun h => ?_))
          | (refine And.intro rfl ?_)
          | (refine And.intro (by omega) ?_)
          | (refine ⟨_, Or.inl ⟨⟨by omega, by omega⟩, rfl⟩, ?_⟩)
          | (refine And.intro (by simp only [lens_all]; first | done | omega) ?_)
          | (refine And.intro (Nat.le_refl _) ?_)
          | fail
        conv => whnf
        rw [frz_its]
        rfl
end
end Go.Proofs.Ytckbagpdahhiiaa
