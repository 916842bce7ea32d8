/- The reader's end; words as bytes and back (plain). -/
import Derived.Test.YticahmkeanbjfaaH2
import Derived.Test.YticahmkeanbjfaaF2
namespace Go.Proofs.Yticahmkeanbjfaa
section
open Go.RowKit
attribute [local irreducible] FS FO IT HS

theorem nnil_ok {P : Program} {o : Oper} {e : Env} {t yt : TypeId} {x : Operand} (ho : o.op = .binOp .neq t x (.const (.pointer none)) yt) (hu : P.underlying t = some (.pointer (P.pointee t))) {cs : List SV} {j : Nat} (hv : ev e (cOpd x) = .box cs j) : OthOk P o e (.bool true) := by
  intro w A β a hr
  have hx : Rep w A β (ev e (cOpd x)) (a.eval x) := ev_rep x fun t ht => hr t (by subst ht; simp [ho, Op.operands])
  have run : ∀ p, a.eval x = .pointer (some p) → (execOp a.eval o).run P w = .ok (.value (.bool true)) w := by
    intro p hp
    have hg : (eqGuard .neq t x (.const (.pointer none)) (.pointer (some p)) (.pointer none)).run P w = .ok () w := by unfold eqGuard; simp
    have he := run_neq_pointer_nil (P := P) w t (some p) hu
    have hy : a.eval (.const (.pointer none)) = .pointer none := rfl
    simp only [execOp, ho, hp, hy, Sem.run_bind, hg, Result.andThen_ok, he, Sem.run_pure, Option.isNone_some, Bool.not_false]
  rw [hv] at hx
  generalize hav : a.eval x = v at hx
  cases hx with
  | box => exact ⟨_, run _ hav, .bool _ _⟩

noncomputable def ir_octet_Reader_End : IR :=
(.seq (.reg (⟨(some 2), .mv (.c (.bool false)), none⟩ :: [])) (.seq (.draw (⟨(some 3), .mv (.t 0), none⟩ ::⟨(some 4), .oth (opAt Try.f10 2), none⟩ ::⟨(some 5), .mv (.t 4), none⟩ ::⟨(some 6), .mv (.t 0), some (5, true)⟩ ::⟨(some 7), .ck (.t 6), some (5, true)⟩ ::⟨(some 8), .fa 2 (.t 7), some (5, true)⟩ ::⟨(some 9), .fa 0 (.t 8), some (5, true)⟩ ::⟨(some 10), .ld 1 false (.t 9), some (5, true)⟩ ::⟨(some 11), .bin .eql (.t 10) (.c (.int .i64 0)), some (5, true)⟩ ::⟨(some 12), .pick (.t 5) (.t 11) (.c (.bool false)), none⟩ ::⟨(some 13), .mv (.t 12), none⟩ ::⟨(some 14), .mv (.t 0), some (13, true)⟩ ::⟨(some 15), .ck (.t 14), some (13, true)⟩ ::⟨(some 16), .fa 1 (.t 15), some (13, true)⟩ ::⟨(some 17), .ld 1 false (.t 16), some (13, true)⟩ ::⟨(some 18), .mv (.t 0), some (13, true)⟩ ::⟨(some 19), .ck (.t 18), some (13, true)⟩ ::⟨(some 20), .fa 0 (.t 19), some (13, true)⟩ ::⟨(some 21), .ld 1 false (.t 20), some (13, true)⟩ ::⟨(some 22), .ln (.t 21), some (13, true)⟩ :: []) (⟨(some 23), .bin .eql (.t 17) (.t 22), some (13, true)⟩ ::⟨(some 24), .pick (.t 13) (.t 23) (.c (.bool false)), none⟩ ::⟨(some 2), .mv (.t 24), none⟩ :: [])) .ret))
theorem cd_octet_Reader_End : Code1 Try.prog 10 25 ir_octet_Reader_End [.t 2] := ⟨Try.call10, _, _, Try.func10, rfl, by kernel_rfl, by kernel_rfl, by kernel_rfl, by kernel_rfl⟩

theorem fs_End (l : List Nat) (a : Int) : FS Try.prog 10 [.box [YL l, .int .i64 a, .int .i64 0, .int .i64 0] 0] (.bool (decide (a = (l.length : Int)))) := by
  refine fs_of_cvc mixed cd_octet_Reader_End (by simp) ?_
  have hll := bs_len l
  repeat' (conv => whnf); first
    | ((refine ⟨.bool true, nnil_ok rfl Try.underlying29 rfl, ?_⟩))
    | ((refine And.intro (Or.inl (Nat.zero_le _)) ?_))
    | ((refine And.intro (show _ ≤ _ from Nat.le_of_ble_eq_true rfl) ?_))
    | (refine Br.tt ?_)
    | (refine Br.ff ?_)
    | (refine Br.dec (fun h => ?_) (fun h => ?_)) <;> try (exfalso; omega)
    | (refine Br.neg ?_)
    | (refine Br.mk (fun h => ?_) (fun h => ?_))
    | (refine And.intro rfl ?_)
    | (refine And.intro (by omega) ?_)
    | (refine ⟨_, Or.inl ⟨⟨by omega, by omega⟩, rfl⟩, ?_⟩)
    | (refine And.intro (by simp only [lens_all, tab_len, bs_len, byL_len, U_len, zs_len]; first | done | omega) ?_)
    | (refine And.intro (Nat.le_refl _) ?_)
    | fail
  show SV.bool _ = SV.bool _
  exact congrArg SV.bool (by rw [hll])

def cat (F : List Nat) (k : Nat) : List Nat := (F.take k).flatMap byL
theorem cat_more {F : List Nat} {k v : Nat} (h : F[k]? = some v) : cat F (k + 1) = cat F k ++ byL v := by
  unfold cat
  rw [List.take_add_one, h, List.flatMap_append]
  simp
theorem cat_len (F : List Nat) : ∀ k, k ≤ F.length → (cat F k).length = 8 * k
  | 0, _ => rfl
  | k + 1, h => by
    rw [cat_more (List.getElem?_eq_getElem (by omega)), List.length_append, cat_len F k (by omega), byL_len]; omega
theorem cat_pre (F : List Nat) (k : Nat) : ∀ m, k ≤ m → ∃ r, cat F m = cat F k ++ r := fun m h => by
  refine ⟨((F.take m).drop k).flatMap byL, ?_⟩
  unfold cat
  rw [← List.flatMap_append]
  congr 1
  have := List.take_append_drop k (F.take m)
  rw [List.take_take, Nat.min_eq_left h] at this
  exact this.symm
theorem cat_at {F : List Nat} {k v : Nat} (h : F[k]? = some v) : ((cat F F.length).drop (8 * k)).take 8 = byL v := by
  have hk := (List.getElem?_eq_some_iff.1 h).1
  obtain ⟨r, hr⟩ := cat_pre F (k + 1) F.length hk
  have hl := cat_len F k (by omega)
  rw [hr, cat_more h, List.append_assoc, List.drop_append_of_le_length (by omega), List.drop_of_length_le (by omega), List.nil_append, List.take_append_of_le_length (by rw [byL_len]; omega), List.take_of_length_le (by rw [byL_len]; omega)]
theorem back64 {v : Nat} (hv : v < 18446744073709551616) : IntKind.u64.wrap (IntKind.i64.wrap (v : Int)) = (v : Int) := by
  rw [wrap_u64, wrap_i64]
  split <;> omega
theorem ofN_has {n : Int} (h0 : 0 ≤ n) (h1 : n ≤ 4096) {l : List Int} {x : Int} (hx : x ∈ l) : hasI (ofN n l) x = (decide (0 ≤ x) && decide (x < n)) := by
  by_cases hx0 : 0 ≤ x
  · obtain ⟨k, rfl⟩ := Int.eq_ofNat_of_zero_le hx0
    rw [hasI_nat, ofN, hasN_puts, hasN_zero, Bool.false_or, List.length_replicate]
    by_cases hk : (k : Int) < n
    · rw [decide_eq_true hx0, decide_eq_true hk, decide_eq_true (by unfold wordsI; omega), Bool.true_and]
      exact List.any_eq_true.2 ⟨_, hx, by rw [if_pos hk]; simp⟩
    · rw [decide_eq_false hk, Bool.and_false, Bool.and_eq_false_iff]
      right
      refine List.any_eq_false.2 fun y _ h => ?_
      by_cases hy : y < n
      · rw [if_pos hy] at h
        have : y = (k : Int) := by simpa using h
        omega
      · rw [if_neg hy] at h; simp at h
  · rw [decide_eq_false hx0, Bool.false_and]
    unfold hasI
    rw [decide_eq_false hx0, Bool.false_and]
theorem right_ofN {n : Int} (h0 : 0 ≤ n) (h1 : n ≤ 4096) (l : List Int) : rightB (ofN n l) n = true := by
  unfold rightB
  have h : nextI (ofN n l) n < 0 := nextI_neg.2 fun b hb => (hasN_ofN ((bits_mem (wd_ofN n l)).1 hb).2).1
  rw [decide_eq_true h0, decide_eq_true h1, decide_eq_true (by rw [ofN_len]), decide_eq_true h]; rfl
end
end Go.Proofs.Yticahmkeanbjfaa
