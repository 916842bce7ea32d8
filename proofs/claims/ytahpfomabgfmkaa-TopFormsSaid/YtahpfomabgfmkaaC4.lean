/- What a vector has in part is the same in either form: the law TopForms. -/
import Derived.Test.YtahpfomabgfmkaaC3
namespace Go.Proofs.Ytahpfomabgfmkaa
section
open Go.RowKit
attribute [local irreducible] FS FO IT HS

def ir_fretworktop_TopForms : IR :=
(.seq (.reg (⟨(some 5), .bx (.t 2), none⟩ ::⟨(some 6), .mv (.c (.bool false)), none⟩ :: [])) (.seq (.reg (⟨(some 18), .mv (.t 0), none⟩ ::⟨(some 19), .mv (.t 1), none⟩ ::⟨(some 20), .call (.c (.fn 39 [])) [(.t 18), (.t 19)], none⟩ ::⟨(some 7), .al [.int .i64 0, .nils], none⟩ ::⟨none, .st 2 (.t 7) (.t 20), none⟩ :: [])) (.seq (.reg (⟨(some 21), .iaA 2 1 (.t 5) (.c (.int .i64 0)), none⟩ ::⟨(some 22), .ld 1 false (.t 21), none⟩ ::⟨(some 23), .cv .i64 (.t 22), none⟩ ::⟨(some 24), .fa 0 (.t 7), none⟩ ::⟨(some 25), .ld 1 false (.t 24), none⟩ ::⟨(some 26), .bin .add (.t 25) (.c (.int .i64 1)), none⟩ ::⟨(some 27), .bin .rem (.t 23) (.t 26), none⟩ ::⟨(some 8), .mv (.t 27), none⟩ :: [])) (.seq (.reg (⟨(some 28), .mv (.t 8), none⟩ ::⟨(some 29), .iaA 2 1 (.t 5) (.c (.int .i64 1)), none⟩ ::⟨(some 30), .ld 1 false (.t 29), none⟩ ::⟨(some 31), .cv .i64 (.t 30), none⟩ ::⟨(some 32), .fa 0 (.t 7), none⟩ ::⟨(some 33), .ld 1 false (.t 32), none⟩ ::⟨(some 34), .mv (.t 8), none⟩ ::⟨(some 35), .bin .sub (.t 33) (.t 34), none⟩ ::⟨(some 36), .bin .add (.t 35) (.c (.int .i64 1)), none⟩ ::⟨(some 37), .bin .rem (.t 31) (.t 36), none⟩ ::⟨(some 38), .bin .add (.t 28) (.t 37), none⟩ ::⟨(some 9), .mv (.t 38), none⟩ :: [])) (.seq (.reg (⟨(some 39), .ld 2 true (.t 7), none⟩ ::⟨(some 40), .call (.c (.fn 23 [])) [(.t 39)], none⟩ ::⟨(some 10), .al [.int .i64 0, .nils, .nils], none⟩ ::⟨none, .st 3 (.t 10) (.t 40), none⟩ :: [])) (.seq (.draw (⟨(some 41), .ld 2 true (.t 7), none⟩ ::⟨(some 42), .mv (.t 8), none⟩ ::⟨(some 43), .call (.c (.fn 42 [])) [(.t 41), (.c (.int .i64 0)), (.t 42)], none⟩ ::⟨(some 44), .ld 2 true (.t 7), none⟩ ::⟨(some 45), .mv (.t 8), none⟩ ::⟨(some 46), .mv (.t 9), none⟩ ::⟨(some 47), .call (.c (.fn 42 [])) [(.t 44), (.t 45), (.t 46)], none⟩ ::⟨(some 48), .ld 2 true (.t 7), none⟩ ::⟨(some 49), .mv (.t 9), none⟩ ::⟨(some 50), .fa 0 (.t 7), none⟩ ::⟨(some 51), .ld 1 false (.t 50), none⟩ ::⟨(some 52), .call (.c (.fn 42 [])) [(.t 48), (.t 49), (.t 51)], none⟩ ::⟨(some 11), .al [.int .i64 0, .nils], none⟩ ::⟨(some 12), .al [.int .i64 0, .nils], none⟩ ::⟨(some 13), .al [.int .i64 0, .nils], none⟩ :: []) (⟨none, .st 2 (.t 11) (.t 43), none⟩ ::⟨none, .st 2 (.t 12) (.t 47), none⟩ ::⟨none, .st 2 (.t 13) (.t 52), none⟩ :: [])) (.seq (.drawL (⟨(some 54), .ld 2 true (.t 11), none⟩ ::⟨(some 55), .ld 3 true (.t 10), none⟩ ::⟨(some 56), .mv (.t 8), none⟩ ::⟨(some 57), .mv (.t 9), none⟩ ::⟨(some 58), .call (.c (.fn 37 [])) [(.t 55), (.t 56), (.t 57)], none⟩ ::⟨(some 59), .call (.c (.fn 20 [])) [(.t 58)], none⟩ ::⟨(some 60), .ld 2 true (.t 13), none⟩ ::⟨(some 61), .bsl 3 2 [.int .i64 0, .nils] [(0, (.t 54)), (1, (.t 59)), (2, (.t 60))], none⟩ ::⟨(some 62), .call (.c (.fn 43 [])) [(.t 61)], none⟩ ::⟨(some 53), .mv (.t 62), none⟩ ::⟨(some 63), .ex 0 (.t 53), none⟩ ::⟨(some 64), .ex 1 (.t 53), none⟩ ::⟨(some 14), .al [.int .i64 0, .nils], none⟩ :: []) (⟨(some 64), .ex 1 (.t 53), none⟩ :: []) (⟨none, .st 2 (.t 14) (.t 63), none⟩ :: []) (⟨(some 15), .mv (.t 64), none⟩ :: [])) (.seq (.reg (⟨(some 66), .call (.c (.fn 45 [])) [(.c (.int .i64 2)), (.c (.int .i64 7))], none⟩ ::⟨(some 67), .call (.c (.fn 44 [])) [(.t 66), (.c (.int .i64 1))], none⟩ ::⟨(some 65), .mv (.t 67), none⟩ ::⟨(some 68), .ex 0 (.t 65), none⟩ ::⟨(some 69), .ex 1 (.t 65), none⟩ ::⟨(some 16), .mv (.t 68), none⟩ ::⟨(some 17), .mv (.t 69), none⟩ :: [])) (.seq (.draw (⟨(some 70), .mv (.t 16), none⟩ ::⟨(some 71), .bin .eql (.t 70) (.c (.int .i64 7)), none⟩ ::⟨(some 72), .mv (.t 71), none⟩ ::⟨(some 73), .mv (.t 17), some (72, true)⟩ ::⟨(some 74), .pick (.t 72) (.t 73) (.c (.bool false)), none⟩ ::⟨(some 75), .mv (.t 74), none⟩ ::⟨(some 76), .mv (.t 15), some (75, true)⟩ ::⟨(some 77), .bin .eql (.t 76) (.c (.int .i64 0)), some (75, true)⟩ ::⟨(some 78), .pick (.t 75) (.t 77) (.c (.bool false)), none⟩ ::⟨(some 79), .mv (.t 78), none⟩ ::⟨(some 80), .ld 2 true (.t 14), some (79, true)⟩ ::⟨(some 81), .ld 2 true (.t 7), some (79, true)⟩ ::⟨(some 82), .call (.c (.fn 46 [])) [(.t 80), (.t 81)], some (79, true)⟩ ::⟨(some 83), .pick (.t 79) (.t 82) (.c (.bool false)), none⟩ ::⟨(some 84), .mv (.t 83), none⟩ ::⟨(some 85), .ld 3 true (.t 10), some (84, true)⟩ ::⟨(some 86), .mv (.t 8), some (84, true)⟩ ::⟨(some 87), .mv (.t 9), some (84, true)⟩ ::⟨(some 88), .call (.c (.fn 37 [])) [(.t 85), (.t 86), (.t 87)], some (84, true)⟩ ::⟨(some 89), .call (.c (.fn 20 [])) [(.t 88)], some (84, true)⟩ ::⟨(some 90), .ld 2 true (.t 12), some (84, true)⟩ ::⟨(some 91), .call (.c (.fn 46 [])) [(.t 89), (.t 90)], some (84, true)⟩ ::⟨(some 92), .pick (.t 84) (.t 91) (.c (.bool false)), none⟩ ::⟨(some 93), .mv (.t 92), none⟩ ::⟨(some 94), .ld 2 true (.t 12), some (93, true)⟩ ::⟨(some 95), .call (.c (.fn 23 [])) [(.t 94)], some (93, true)⟩ ::⟨(some 96), .ld 3 true (.t 10), some (93, true)⟩ ::⟨(some 97), .mv (.t 8), some (93, true)⟩ ::⟨(some 98), .mv (.t 9), some (93, true)⟩ :: []) (⟨(some 99), .call (.c (.fn 37 [])) [(.t 96), (.t 97), (.t 98)], some (93, true)⟩ ::⟨(some 100), .call (.c (.fn 40 [])) [(.t 95), (.t 99)], some (93, true)⟩ ::⟨(some 101), .pick (.t 93) (.t 100) (.c (.bool false)), none⟩ ::⟨(some 6), .mv (.t 101), none⟩ :: [])) .ret)))))))))
theorem cd_fretworktop_TopForms : Code1 Try.prog 7 102 ir_fretworktop_TopForms [.t 6] := ⟨Try.call7, _, _, Try.func7, rfl, by kernel_rfl, by kernel_rfl, by kernel_rfl, by kernel_rfl⟩

set_option maxHeartbeats 8000000 in
theorem fs_TopForms (n : Int) (l : List (Int × Int)) (p q : Int) (hn : 0 ≤ n ∧ n ≤ 255) (hb : Ib l) (hp : 0 ≤ p ∧ p ≤ 255) (hq : 0 ≤ q ∧ q ≤ 255) : FS Try.prog 7 [.int .u8 n, IL l, .agg [.int .u8 p, .int .u8 q]] (.bool true) := by
  refine fs_of_cvc mixed cd_fretworktop_TopForms (by simp) ?_
  have ct := fs_Some n l hn hb
  obtain ⟨a, ea, ha, ia, la⟩ := sm_ok hn hb
  rw [ea] at ct
  replace ct : FS Try.prog 39 [.int .u8 n, IL l] (VC (n.tmod 60) a) := ct
  have hK := tmod_bd hn.1 (show (0 : Int) < 60 by omega)
  generalize n.tmod 60 = K at *
  have hk := tmod_bd hp.1 (show (0 : Int) < K + 1 by omega)
  have hm := tmod_bd hq.1 (show (0 : Int) < K - p.tmod (K + 1) + 1 by omega)
  have g1 := glR_three (b := p.tmod (K + 1) + q.tmod (K - p.tmod (K + 1) + 1)) ha hk.1 (by omega) (by omega)
  have o1 := okV_ptR ha 0 (p.tmod (K + 1))
  have o2 := okV_ptR ha (p.tmod (K + 1)) (p.tmod (K + 1) + q.tmod (K - p.tmod (K + 1) + 1))
  have o3 := okV_ptR ha (p.tmod (K + 1) + q.tmod (K - p.tmod (K + 1) + 1)) K
  obtain ⟨P1, h1⟩ : ∃ P, ptR K a 0 (p.tmod (K + 1)) = P := ⟨_, rfl⟩
  obtain ⟨P2, h2⟩ : ∃ P, ptR K a (p.tmod (K + 1)) (p.tmod (K + 1) + q.tmod (K - p.tmod (K + 1) + 1)) = P := ⟨_, rfl⟩
  obtain ⟨P3, h3⟩ : ∃ P, ptR K a (p.tmod (K + 1) + q.tmod (K - p.tmod (K + 1) + 1)) K = P := ⟨_, rfl⟩
  rw [h1] at o1 g1
  rw [h2] at o2 g1
  rw [h3] at o3 g1
  obtain ⟨N1, L1⟩ := P1
  obtain ⟨N2, L2⟩ := P2
  obtain ⟨N3, L3⟩ := P3
  simp only at o1 o2 o3
  have i0 : I64 0 := I64c rfl
  have ik : I64 (p.tmod (K + 1)) := i64_of hk.1 (by omega)
  have im : I64 (p.tmod (K + 1) + q.tmod (K - p.tmod (K + 1) + 1)) := i64_of (by omega) (by omega)
  have iK : I64 K := i64_of hK.1 (by omega)
  have c0 := fv_Of ha
  have c1 := fs_vPartV ha i0 ik h1
  have c2 := fs_vPartV ha ik im h2
  have c3 := fs_vPartV ha im iK h3
  have c4 := fv_Part ha _ _ ik im
  rw [h2] at c4
  have c5 := fv_Back o2
  have c6 := fs_vGlue [(N1, L1), (N2, L2), (N3, L3)] (by simp) (by intro v hv; simp at hv; rcases hv with rfl | rfl | rfl; exact (by have := o1.le; have := o1.n1; simp only; omega); exact (by have := o2.le; have := o2.n1; simp only; omega); exact (by have := o3.le; have := o3.n1; simp only; omega))
  rw [g1] at c6
  have c7 := fs_Fill 2 7
  rw [if_pos (by omega), show filL (2 : Int).toNat 7 = [(0, 7), (1, 7)] by kernel_rfl] at c7
  have c8 := fs_Get 2 [(0, 7), (1, 7)] 1 (by simp)
  rw [show valI (sl 2 [(0, 7), (1, 7)]) 1 = 7 by kernel_rfl, show hasI' (sl 2 [(0, 7), (1, 7)]) 1 = true by kernel_rfl] at c8
  have c9 := fs_samev K a (by omega)
  have ca := fs_samev N2 L2 (by have := o2.le; have := o2.n1; omega)
  have cb := fv_Of o2
  have cc := fv_Same o2
  clear h1 h2 h3 g1
  simp only at c4
  unfold dV at *
  generalize toF K a = F0 at *
  generalize toL K a = Z0 at *
  generalize toF N2 L2 = F2 at *
  generalize toL N2 L2 = Z2 at *
  repeat' (conv => whnf); first
    | ((refine Or.inl ⟨by rfl, _, ct, ?_⟩))
    | ((refine Or.inl ⟨by rfl, _, c0, ?_⟩))
    | ((refine Or.inl ⟨by rfl, _, c1, ?_⟩))
    | ((refine Or.inl ⟨by rfl, _, c2, ?_⟩))
    | ((refine Or.inl ⟨by rfl, _, c3, ?_⟩))
    | ((refine Or.inl ⟨by rfl, _, c4, ?_⟩))
    | ((refine Or.inl ⟨by rfl, _, c5, ?_⟩))
    | ((refine Or.inl ⟨by rfl, _, c6, ?_⟩))
    | ((refine Or.inl ⟨by rfl, _, c7, ?_⟩))
    | ((refine Or.inl ⟨by rfl, _, c8, ?_⟩))
    | ((refine Or.inl ⟨by rfl, _, c9, ?_⟩))
    | ((refine Or.inl ⟨by rfl, _, ca, ?_⟩))
    | ((refine Or.inl ⟨by rfl, _, cb, ?_⟩))
    | ((refine Or.inl ⟨by rfl, _, cc, ?_⟩))
    | ((refine ex_but 6 ?_; refine And.intro ?_ ?_; focus ((repeat' (first | exact trivial | exact rfl | (refine And.intro ?_ ?_) | omega | exact Nat.le_of_ble_eq_true rfl | ((conv => whnf); first | exact trivial | exact rfl | (refine And.intro ?_ ?_)))); done)))
    | ((exact rfl))
    | ((exact trivial))
    | ((refine And.intro ?_ ?_; focus ((repeat' (first | exact trivial | exact rfl | (refine And.intro ?_ ?_) | omega | exact Nat.le_of_ble_eq_true rfl | ((conv => whnf); first | exact trivial | exact rfl | (refine And.intro ?_ ?_)))); done)))
    | ((refine Br.beq (by rfl) ?_))
    | ((refine Br.bne (by rfl) ?_))
    | ((refine And.intro (Or.inl (Nat.zero_le _)) ?_))
    | ((refine And.intro (show _ ≤ _ from Nat.le_of_ble_eq_true rfl) ?_))
    | (refine Br.tt ?_)
    | (refine Br.ff ?_)
    | (refine Br.dec (fun h => ?_) (fun h => ?_)) <;> try (exfalso; omega)
    | (refine Br.neg ?_)
    | (refine Br.mk (fun h => ?_) (fun h => ?_))
    | (refine And.intro rfl ?_)
    | (refine And.intro (by omega) ?_)
    | (refine ⟨_, Or.inl ⟨⟨by omega, by omega⟩, rfl⟩, ?_⟩)
    | (refine And.intro (by simp only [lens_all, its_len, zs_len, vecs_len, U_len]; first | done | omega) ?_)
    | (refine And.intro (Nat.le_refl _) ?_)
    | fail
  all_goals exact rfl
end
end Go.Proofs.Ytahpfomabgfmkaa
