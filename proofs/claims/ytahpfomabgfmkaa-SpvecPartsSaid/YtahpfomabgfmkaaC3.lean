/- Sparse vectors: the laws SpvecPuts, SpvecParts. Sparse vectors: the laws SpvecOf, SpvecDoes. Sparse vectors: the law SpvecGlues. -/
import Derived.Test.YtahpfomabgfmkaaC2
namespace Go.Proofs.Ytahpfomabgfmkaa
section
open Go.RowKit
attribute [local irreducible] FS FO IT HS

theorem fs_samev (n : Int) (l : List (Int × Int)) (hl : l.length ≤ 1000000000) : FS Try.prog 46 [VC n l, VC n l] (.bool true) := by
  have := fs_vSame n n l l hl hl
  rwa [decide_eq_true rfl, decide_eq_true rfl] at this
theorem fs_vPartV {n : Int} {l : List (Int × Int)} (h : OkV n l) {p q : Int} {N : Int} {L : List (Int × Int)} (hp : I64 p) (hq : I64 q) (e : ptR n l p q = (N, L)) : FS Try.prog 42 [VC n l, .int .i64 p, .int .i64 q] (VC N L) := by
  have := fs_vPart n l p q (by have := h.le; omega) hp hq
  rwa [h.sn, h.sl, e] at this
theorem i64_of {x : Int} (h0 : 0 ≤ x) (h1 : x ≤ 1000000) : I64 x := by unfold I64; omega

def ir_fretworklaw09_SpvecParts : IR :=
(.seq (.reg (⟨(some 5), .bx (.t 2), none⟩ ::⟨(some 6), .mv (.c (.bool false)), none⟩ :: [])) (.seq (.reg (⟨(some 14), .mv (.t 0), none⟩ ::⟨(some 15), .mv (.t 1), none⟩ ::⟨(some 16), .call (.c (.fn 39 [])) [(.t 14), (.t 15)], none⟩ ::⟨(some 7), .al [.int .i64 0, .nils], none⟩ ::⟨none, .st 2 (.t 7) (.t 16), none⟩ :: [])) (.seq (.reg (⟨(some 17), .iaA 2 1 (.t 5) (.c (.int .i64 0)), none⟩ ::⟨(some 18), .ld 1 false (.t 17), none⟩ ::⟨(some 19), .cv .i64 (.t 18), none⟩ ::⟨(some 20), .fa 0 (.t 7), none⟩ ::⟨(some 21), .ld 1 false (.t 20), none⟩ ::⟨(some 22), .bin .add (.t 21) (.c (.int .i64 1)), none⟩ ::⟨(some 23), .bin .rem (.t 19) (.t 22), none⟩ ::⟨(some 8), .mv (.t 23), none⟩ :: [])) (.seq (.draw (⟨(some 24), .ld 2 true (.t 7), none⟩ ::⟨(some 25), .mv (.t 8), none⟩ ::⟨(some 26), .call (.c (.fn 42 [])) [(.t 24), (.c (.int .i64 0)), (.t 25)], none⟩ ::⟨(some 27), .ld 2 true (.t 7), none⟩ ::⟨(some 28), .mv (.t 8), none⟩ ::⟨(some 29), .fa 0 (.t 7), none⟩ ::⟨(some 30), .ld 1 false (.t 29), none⟩ ::⟨(some 31), .call (.c (.fn 42 [])) [(.t 27), (.t 28), (.t 30)], none⟩ ::⟨(some 9), .al [.int .i64 0, .nils], none⟩ ::⟨(some 10), .al [.int .i64 0, .nils], none⟩ :: []) (⟨none, .st 2 (.t 9) (.t 26), none⟩ ::⟨none, .st 2 (.t 10) (.t 31), none⟩ :: [])) (.seq (.reg (⟨(some 33), .ld 2 true (.t 9), none⟩ ::⟨(some 34), .ld 2 true (.t 10), none⟩ ::⟨(some 35), .bsl 2 2 [.int .i64 0, .nils] [(0, (.t 33)), (1, (.t 34))], none⟩ ::⟨(some 36), .call (.c (.fn 43 [])) [(.t 35)], none⟩ ::⟨(some 32), .mv (.t 36), none⟩ ::⟨(some 37), .ex 0 (.t 32), none⟩ ::⟨(some 38), .ex 1 (.t 32), none⟩ ::⟨(some 11), .al [.int .i64 0, .nils], none⟩ ::⟨none, .st 2 (.t 11) (.t 37), none⟩ ::⟨(some 12), .mv (.t 38), none⟩ :: [])) (.seq (.reg (⟨(some 39), .iaA 2 1 (.t 5) (.c (.int .i64 1)), none⟩ ::⟨(some 40), .ld 1 false (.t 39), none⟩ ::⟨(some 41), .cv .i64 (.t 40), none⟩ ::⟨(some 42), .fa 0 (.t 7), none⟩ ::⟨(some 43), .ld 1 false (.t 42), none⟩ ::⟨(some 44), .bin .add (.t 43) (.c (.int .i64 1)), none⟩ ::⟨(some 45), .bin .rem (.t 41) (.t 44), none⟩ ::⟨(some 13), .mv (.t 45), none⟩ :: [])) (.seq (.draw (⟨(some 46), .call (.c (.fn 51 [])) [], none⟩ ::⟨(some 47), .mv (.t 46), none⟩ ::⟨(some 48), .mv (.t 12), some (47, true)⟩ ::⟨(some 49), .bin .eql (.t 48) (.c (.int .i64 0)), some (47, true)⟩ ::⟨(some 50), .pick (.t 47) (.t 49) (.c (.bool false)), none⟩ ::⟨(some 51), .mv (.t 50), none⟩ ::⟨(some 52), .ld 2 true (.t 11), some (51, true)⟩ ::⟨(some 53), .ld 2 true (.t 7), some (51, true)⟩ ::⟨(some 54), .call (.c (.fn 46 [])) [(.t 52), (.t 53)], some (51, true)⟩ ::⟨(some 55), .pick (.t 51) (.t 54) (.c (.bool false)), none⟩ ::⟨(some 56), .mv (.t 55), none⟩ ::⟨(some 57), .ld 2 true (.t 10), some (56, true)⟩ ::⟨(some 58), .mv (.t 13), some (56, true)⟩ ::⟨(some 59), .call (.c (.fn 42 [])) [(.t 57), (.c (.int .i64 0)), (.t 58)], some (56, true)⟩ ::⟨(some 60), .ld 2 true (.t 7), some (56, true)⟩ ::⟨(some 61), .mv (.t 8), some (56, true)⟩ ::⟨(some 62), .mv (.t 8), some (56, true)⟩ ::⟨(some 63), .mv (.t 13), some (56, true)⟩ ::⟨(some 64), .bin .add (.t 62) (.t 63), some (56, true)⟩ :: []) (⟨(some 65), .call (.c (.fn 42 [])) [(.t 60), (.t 61), (.t 64)], some (56, true)⟩ ::⟨(some 66), .call (.c (.fn 46 [])) [(.t 59), (.t 65)], some (56, true)⟩ ::⟨(some 67), .pick (.t 56) (.t 66) (.c (.bool false)), none⟩ ::⟨(some 6), .mv (.t 67), none⟩ :: [])) .ret)))))))
theorem cd_fretworklaw09_SpvecParts : Code1 Try.prog 13 68 ir_fretworklaw09_SpvecParts [.t 6] := ⟨Try.call13, _, _, Try.func13, rfl, by kernel_rfl, by kernel_rfl, by kernel_rfl, by kernel_rfl⟩

set_option maxHeartbeats 8000000 in
theorem fs_SpvecParts (n : Int) (l : List (Int × Int)) (p q : Int) (hn : 0 ≤ n ∧ n ≤ 255) (hb : Ib l) (hp : 0 ≤ p ∧ p ≤ 255) (hq : 0 ≤ q ∧ q ≤ 255) : FS Try.prog 13 [.int .u8 n, IL l, .agg [.int .u8 p, .int .u8 q]] (.bool true) := by
  refine fs_of_cvc mixed cd_fretworklaw09_SpvecParts (by simp) ?_
  have ct := fs_Some n l hn hb
  obtain ⟨a, ea, ha, ia, la⟩ := sm_ok hn hb
  rw [ea] at ct
  replace ct : FS Try.prog 39 [.int .u8 n, IL l] (VC (n.tmod 60) a) := ct
  have hK := tmod_bd hn.1 (show (0 : Int) < 60 by omega)
  generalize n.tmod 60 = K at *
  have hk := tmod_bd hp.1 (show (0 : Int) < K + 1 by omega)
  have hm := tmod_bd hq.1 (show (0 : Int) < K + 1 by omega)
  have g1 := glR_two ha hk.1 (by omega)
  have g2 := ptR_part ha hk.1 (by omega) hm.1
  have o1 := okV_ptR ha 0 (p.tmod (K + 1))
  have o2 := okV_ptR ha (p.tmod (K + 1)) K
  have o3 := okV_ptR ha (p.tmod (K + 1)) (p.tmod (K + 1) + q.tmod (K + 1))
  have e2 := ptR_in (b := K) a hk.1 (by omega) (Int.le_refl K)
  have g3 : ptR (ptR K a (p.tmod (K + 1)) K).1 (ptR K a (p.tmod (K + 1)) K).2 0 (q.tmod (K + 1)) = ptR K a (p.tmod (K + 1)) (p.tmod (K + 1) + q.tmod (K + 1)) := by rw [e2]; exact g2
  clear g2 e2
  obtain ⟨P1, h1⟩ : ∃ P, ptR K a 0 (p.tmod (K + 1)) = P := ⟨_, rfl⟩
  obtain ⟨P2, h2⟩ : ∃ P, ptR K a (p.tmod (K + 1)) K = P := ⟨_, rfl⟩
  obtain ⟨P3, h3⟩ : ∃ P, ptR K a (p.tmod (K + 1)) (p.tmod (K + 1) + q.tmod (K + 1)) = P := ⟨_, rfl⟩
  rw [h1] at o1 g1
  rw [h2] at o2 g1 g3
  rw [h3] at o3 g3
  obtain ⟨N1, L1⟩ := P1
  obtain ⟨N2, L2⟩ := P2
  obtain ⟨N3, L3⟩ := P3
  simp only at o1 o2 o3 g3
  have i0 : I64 0 := I64c rfl
  have ik : I64 (p.tmod (K + 1)) := i64_of hk.1 (by omega)
  have im : I64 (q.tmod (K + 1)) := i64_of hm.1 (by omega)
  have iK : I64 K := i64_of hK.1 (by omega)
  have ikm : I64 (p.tmod (K + 1) + q.tmod (K + 1)) := i64_of (by omega) (by omega)
  have c1 := fs_vPartV ha i0 ik h1
  have c2 := fs_vPartV ha ik iK h2
  have c3 := fs_vGlue [(N1, L1), (N2, L2)] (by simp) (by intro v hv; simp at hv; rcases hv with rfl | rfl; exact (by have := o1.le; have := o1.n1; simp only; omega); exact (by have := o2.le; have := o2.n1; simp only; omega))
  rw [g1] at c3
  have c4 := fs_samev K a (by omega)
  have c5 := fs_vPartV o2 i0 im g3
  have c6 := fs_vPartV ha ik ikm h3
  have c7 := fs_samev N3 L3 (by have := o3.le; have := o3.n1; omega)
  clear h1 h2 h3 g1 g3
  repeat' (conv => whnf); first
    | ((refine Or.inl ⟨by rfl, _, ct, ?_⟩))
    | ((refine Or.inl ⟨by rfl, _, c1, ?_⟩))
    | ((refine Or.inl ⟨by rfl, _, c2, ?_⟩))
    | ((refine Or.inl ⟨by rfl, _, c3, ?_⟩))
    | ((refine Or.inl ⟨by rfl, _, c4, ?_⟩))
    | ((refine Or.inl ⟨by rfl, _, c5, ?_⟩))
    | ((refine Or.inl ⟨by rfl, _, c6, ?_⟩))
    | ((refine Or.inl ⟨by rfl, _, c7, ?_⟩))
    | ((refine Or.inl ⟨by rfl, _, fs_live09, ?_⟩))
    | ((refine Br.beq (by rfl) ?_))
    | ((refine Br.bne (by rfl) ?_))
    | ((refine And.intro (Or.inl (Nat.zero_le _)) ?_))
    | ((refine And.intro (show _ ≤ _ from Nat.le_of_ble_eq_true rfl) ?_))
    | (refine Br.tt ?_)
    | (refine Br.ff ?_)
    | (refine Br.dec (fun h => ?_) (fun h => ?_)) <;> try (exfalso; omega)
    | (refine Br.neg ?_)
    | (refine Br.mk (fun h => ?_) (fun h => ?_))
    | (refine And.intro rfl ?_)
    | (refine And.intro (by omega) ?_)
    | (refine ⟨_, Or.inl ⟨⟨by omega, by omega⟩, rfl⟩, ?_⟩)
    | (refine And.intro (by simp only [lens_all, its_len, zs_len, vecs_len]; first | done | omega) ?_)
    | (refine And.intro (Nat.le_refl _) ?_)
    | fail
  all_goals exact rfl

theorem Br.off {b : Bool} {T F : Prop} (e : b = false) (h : F) : Br b T F := ⟨fun h' => (by rw [e] at h'; cases h'), fun _ => h⟩
section
variable {K : Int} {a : List (Int × Int)}
theorem put_gets (ha : OkV K a) (P y : Int) (hP : 0 < K → 0 ≤ P ∧ P < K) : ∀ j : Int, 0 ≤ j ∧ j < K → (SV.tup [.int .i64 ((gt (putR K a P y) j).getD 0), .bool (gt (putR K a P y) j).isSome]) = if j = P then .tup [.int .i64 y, .bool true] else .tup [.int .i64 ((gt a j).getD 0), .bool (gt a j).isSome] := fun j hj => by
  rw [gt_putR ha]
  by_cases h : j = P
  · subst h
    rw [if_pos rfl, if_pos ⟨rfl, hj.1, hj.2⟩]; rfl
  · rw [if_neg h, if_neg (fun h' => h h'.1)]
end

def ir_fretworklaw09_SpvecPuts : IR :=
(.seq (.reg (⟨(some 5), .bx (.t 2), none⟩ ::⟨(some 6), .mv (.c (.bool false)), none⟩ :: [])) (.seq (.reg (⟨(some 17), .mv (.t 0), none⟩ ::⟨(some 18), .mv (.t 1), none⟩ ::⟨(some 19), .call (.c (.fn 39 [])) [(.t 17), (.t 18)], none⟩ ::⟨(some 7), .al [.int .i64 0, .nils], none⟩ ::⟨none, .st 2 (.t 7) (.t 19), none⟩ :: [])) (.seq (.reg (⟨(some 8), .mv (.c (.int .i64 0)), none⟩ :: [])) (.seq (.seq (.reg (⟨(some 20), .fa 0 (.t 7), none⟩ ::⟨(some 21), .ld 1 false (.t 20), none⟩ ::⟨(some 22), .bin .gtr (.t 21) (.c (.int .i64 0)), none⟩ ::⟨(some 23), .mv (.t 22), none⟩ ::⟨(some 24), .fa 0 (.t 5), some (23, true)⟩ ::⟨(some 25), .ld 1 false (.t 24), some (23, true)⟩ ::⟨(some 26), .bin .geq (.t 25) (.c (.int .i64 0)), some (23, true)⟩ ::⟨(some 27), .pick (.t 23) (.t 26) (.c (.bool false)), none⟩ :: [])) (.cond (.t 27) (.reg (⟨(some 28), .fa 0 (.t 5), none⟩ ::⟨(some 29), .ld 1 false (.t 28), none⟩ ::⟨(some 30), .fa 0 (.t 7), none⟩ ::⟨(some 31), .ld 1 false (.t 30), none⟩ ::⟨(some 32), .bin .rem (.t 29) (.t 31), none⟩ ::⟨(some 8), .mv (.t 32), none⟩ :: [])) .skip)) (.seq (.reg (⟨(some 33), .ld 2 true (.t 7), none⟩ ::⟨(some 34), .mv (.t 8), none⟩ ::⟨(some 35), .fa 1 (.t 5), none⟩ ::⟨(some 36), .ld 1 false (.t 35), none⟩ ::⟨(some 37), .call (.c (.fn 47 [])) [(.t 33), (.t 34), (.t 36)], none⟩ ::⟨(some 9), .al [.int .i64 0, .nils], none⟩ ::⟨none, .st 2 (.t 9) (.t 37), none⟩ :: [])) (.seq (.seq (.reg (⟨(some 10), .mv (.c (.int .i64 0)), none⟩ :: [])) (.block 0 (.loop (.seq (.seq (.reg (⟨(some 38), .mv (.t 10), none⟩ ::⟨(some 39), .fa 0 (.t 7), none⟩ ::⟨(some 40), .ld 1 false (.t 39), none⟩ ::⟨(some 41), .bin .lss (.t 38) (.t 40), none⟩ :: [])) (.cond (.t 41) .skip (.exit 0))) (.seq (.block 1 (.seq (.reg (⟨(some 45), .ld 2 true (.t 9), none⟩ ::⟨(some 46), .mv (.t 10), none⟩ ::⟨(some 47), .call (.c (.fn 44 [])) [(.t 45), (.t 46)], none⟩ ::⟨(some 44), .mv (.t 47), none⟩ ::⟨(some 48), .ex 0 (.t 44), none⟩ ::⟨(some 49), .ex 1 (.t 44), none⟩ ::⟨(some 11), .mv (.t 48), none⟩ ::⟨(some 12), .mv (.t 49), none⟩ :: [])) (.seq (.reg (⟨(some 51), .ld 2 true (.t 7), none⟩ ::⟨(some 52), .mv (.t 10), none⟩ ::⟨(some 53), .call (.c (.fn 53 [])) [(.t 51), (.t 52)], none⟩ ::⟨(some 50), .mv (.t 53), none⟩ ::⟨(some 54), .ex 0 (.t 50), none⟩ ::⟨(some 55), .ex 1 (.t 50), none⟩ ::⟨(some 13), .mv (.t 54), none⟩ ::⟨(some 14), .mv (.t 55), none⟩ :: [])) (.seq (.reg (⟨(some 56), .mv (.t 10), none⟩ ::⟨(some 57), .mv (.t 8), none⟩ ::⟨(some 58), .bin .eql (.t 56) (.t 57), none⟩ ::⟨(some 59), .mv (.t 58), none⟩ ::⟨(some 60), .mv (.t 12), some (59, true)⟩ ::⟨(some 61), .un .not (.t 60), some (59, true)⟩ ::⟨(some 62), .mv (.t 61), some (59, true)⟩ ::⟨(some 63), .mv (.t 11), some (62, false)⟩ ::⟨(some 64), .fa 1 (.t 5), some (62, false)⟩ ::⟨(some 65), .ld 1 false (.t 64), some (62, false)⟩ ::⟨(some 66), .bin .neq (.t 63) (.t 65), some (62, false)⟩ ::⟨(some 67), .pick (.t 62) (.c (.bool true)) (.t 66), some (59, true)⟩ ::⟨(some 68), .pick (.t 59) (.t 67) (.c (.bool false)), none⟩ ::⟨(some 69), .mv (.t 68), none⟩ ::⟨(some 70), .mv (.t 10), some (69, false)⟩ ::⟨(some 71), .mv (.t 8), some (69, false)⟩ ::⟨(some 72), .bin .neq (.t 70) (.t 71), some (69, false)⟩ ::⟨(some 73), .mv (.t 72), some (69, false)⟩ ::⟨(some 74), .mv (.t 11), some (73, true)⟩ ::⟨(some 75), .mv (.t 13), some (73, true)⟩ ::⟨(some 76), .bin .neq (.t 74) (.t 75), some (73, true)⟩ ::⟨(some 77), .mv (.t 76), some (73, true)⟩ ::⟨(some 78), .mv (.t 12), some (77, false)⟩ ::⟨(some 79), .mv (.t 14), some (77, false)⟩ ::⟨(some 80), .beq true (.t 78) (.t 79), some (77, false)⟩ ::⟨(some 81), .pick (.t 77) (.c (.bool true)) (.t 80), some (73, true)⟩ ::⟨(some 82), .pick (.t 73) (.t 81) (.c (.bool false)), some (69, false)⟩ ::⟨(some 83), .pick (.t 69) (.c (.bool true)) (.t 82), none⟩ :: [])) (.cond (.t 83) (.seq (.reg (⟨(some 6), .mv (.c (.bool false)), none⟩ :: [])) .ret) .skip))))) (.reg (⟨(some 42), .mv (.t 10), none⟩ ::⟨(some 43), .bin .add (.t 42) (.c (.int .i64 1)), none⟩ ::⟨(some 10), .mv (.t 43), none⟩ :: []))))))) (.seq (.reg (⟨(some 85), .fa 0 (.t 7), none⟩ ::⟨(some 86), .ld 1 false (.t 85), none⟩ ::⟨(some 87), .fa 1 (.t 7), none⟩ ::⟨(some 88), .ld 1 false (.t 87), none⟩ ::⟨(some 89), .call (.c (.fn 49 [])) [(.c (.int .i64 2)), (.t 86), (.t 88)], none⟩ ::⟨(some 84), .mv (.t 89), none⟩ ::⟨(some 90), .ex 0 (.t 84), none⟩ ::⟨(some 91), .ex 1 (.t 84), none⟩ ::⟨(some 15), .al [.int .i64 0, .nils], none⟩ ::⟨none, .st 2 (.t 15) (.t 90), none⟩ ::⟨(some 16), .mv (.t 91), none⟩ :: [])) (.seq (.reg (⟨(some 92), .call (.c (.fn 51 [])) [], none⟩ ::⟨(some 93), .mv (.t 92), none⟩ ::⟨(some 94), .ld 2 true (.t 9), some (93, true)⟩ ::⟨(some 95), .call (.c (.fn 54 [])) [(.t 94)], some (93, true)⟩ ::⟨(some 96), .pick (.t 93) (.t 95) (.c (.bool false)), none⟩ ::⟨(some 97), .mv (.t 96), none⟩ ::⟨(some 98), .mv (.t 16), some (97, true)⟩ ::⟨(some 99), .bin .eql (.t 98) (.c (.int .i64 0)), some (97, true)⟩ ::⟨(some 100), .pick (.t 97) (.t 99) (.c (.bool false)), none⟩ ::⟨(some 101), .mv (.t 100), none⟩ ::⟨(some 102), .ld 2 true (.t 15), some (101, true)⟩ ::⟨(some 103), .ld 2 true (.t 7), some (101, true)⟩ ::⟨(some 104), .call (.c (.fn 46 [])) [(.t 102), (.t 103)], some (101, true)⟩ ::⟨(some 105), .pick (.t 101) (.t 104) (.c (.bool false)), none⟩ ::⟨(some 6), .mv (.t 105), none⟩ :: [])) .ret))))))))
theorem cd_fretworklaw09_SpvecPuts : Code1 Try.prog 12 106 ir_fretworklaw09_SpvecPuts [.t 6] := ⟨Try.call12, _, _, Try.func12, rfl, by kernel_rfl, by kernel_rfl, by kernel_rfl, by kernel_rfl⟩

set_option maxHeartbeats 16000000 in
theorem fs_SpvecPuts (n : Int) (l : List (Int × Int)) (x y : Int) (hn : 0 ≤ n ∧ n ≤ 255) (hb : Ib l) (hx : I64 x) (_hy : I64 y) : FS Try.prog 12 [.int .u8 n, IL l, .agg [.int .i64 x, .int .i64 y]] (.bool true) := by
  refine fs_of_cvc mixed cd_fretworklaw09_SpvecPuts (by simp) ?_
  have ct := fs_Some n l hn hb
  obtain ⟨a, ea, ha, ia, la⟩ := sm_ok hn hb
  rw [ea] at ct
  replace ct : FS Try.prog 39 [.int .u8 n, IL l] (VC (n.tmod 60) a) := ct
  have hK := tmod_bd hn.1 (show (0 : Int) < 60 by omega)
  generalize n.tmod 60 = K at *
  have c5 := fs_vOf 2 K a (by omega) ia
  rw [ofR_self (by decide) ha ia] at c5
  have c6 := fs_samev K a (by omega)
  have c3 : ∀ p, FS Try.prog 53 [VC K a, .int .i64 p] (.tup [.int .i64 ((gt a p).getD 0), .bool (gt a p).isSome]) := fun p => by
    have := fs_r9Get K a p (by omega)
    rwa [ha.sl] at this
  have hput : ∀ P : Int, (0 < K → 0 ≤ P ∧ P < K) → ∃ b : List (Int × Int), b.length ≤ 1000000 ∧ FS Try.prog 47 [VC K a, .int .i64 P, .int .i64 y] (VC K b) ∧ FS Try.prog 54 [VC K b] (.bool true) ∧
      (∀ p, FS Try.prog 44 [VC K b, .int .i64 p] (.tup [.int .i64 ((gt b p).getD 0), .bool (gt b p).isSome])) ∧
      ∀ j : Int, 0 ≤ j ∧ j < K → (SV.tup [.int .i64 ((gt b j).getD 0), .bool (gt b j).isSome]) = if j = P then .tup [.int .i64 y, .bool true] else .tup [.int .i64 ((gt a j).getD 0), .bool (gt a j).isSome] := fun P hP => by
    have hs : OkV K (putR K a P y) := ha.put
    have hl := hs.le
    have h1 := hs.n1
    have c1 := fs_vPut K a P y (by omega)
    rw [ha.sn, ha.sl] at c1
    have c4 := fs_vRight K (putR K a P y) (by omega)
    rw [hs.isV] at c4
    refine ⟨putR K a P y, by omega, c1, c4, fun p => ?_, put_gets ha P y hP⟩
    have := fs_Get K (putR K a P y) p (by omega)
    rwa [hs.sl, valI_gt, hasI'_gt] at this
  have hx' := hx
  unfold I64 at hx'
  by_cases hc : 0 < K ∧ 0 ≤ x
  · have hP := tmod_bd hc.2 hc.1
    obtain ⟨b, hbl, c1, c4, c2, hgb⟩ := hput (x.tmod K) (fun _ => hP)
    have hc1 := hc.1
    have hc2 := hc.2
    repeat' (conv => whnf); first
      | ((refine Or.inl ⟨by rfl, _, ct, ?_⟩))
      | ((refine Or.inl ⟨by rfl, _, c1, ?_⟩))
      | ((refine Br.beq (by rfl) ?_))
      | ((refine Br.bne (by rfl) ?_))
      | ((refine And.intro (Or.inl (Nat.zero_le _)) ?_))
      | ((refine And.intro (show _ ≤ _ from Nat.le_of_ble_eq_true rfl) ?_))
      | (refine Br.tt ?_)
      | (refine Br.ff ?_)
      | (refine Br.dec (fun h => ?_) (fun h => ?_)) <;> try (exfalso; omega)
      | (refine Br.neg ?_)
      | (refine Br.mk (fun h => ?_) (fun h => ?_))
      | (refine And.intro rfl ?_)
      | (refine And.intro (by omega) ?_)
      | (refine ⟨_, Or.inl ⟨⟨by omega, by omega⟩, rfl⟩, ?_⟩)
      | (refine And.intro (by simp only [lens_all, its_len, zs_len, vecs_len]; first | done | omega) ?_)
      | (refine And.intro (Nat.le_refl _) ?_)
      | fail
    refine ⟨Nat, fun j => (j : Int) ≤ K, fun j => [(5, .ptr 0 0 0 0), (7, .ptr 1 0 0 0), (8, .int .i64 (x.tmod K)), (9, .ptr 2 0 0 0), (10, .int .i64 (j : Int))], fun _ => [.vars [.int .i64 x, .int .i64 y], .vars [.int .i64 K, IL a], .vars [.int .i64 K, IL b]], fun _ => none, fun j => K.toNat - j,
      ⟨0, hK.1, ⟨rfl, rfl, rfl, rfl, rfl, trivial⟩, ⟨⟨rfl, rfl, trivial⟩, ⟨rfl, rfl, trivial⟩, ⟨rfl, rfl, trivial⟩, trivial⟩, rfl⟩, fun j hj => ?_⟩
    have hj : (j : Int) ≤ K := hj
    by_cases hjK : (j : Int) < K
    · have q1 := c2 (j : Int)
      have q2 := c3 (j : Int)
      rw [hgb (j : Int) ⟨by omega, hjK⟩] at q1
      by_cases hjP : (j : Int) = (x.tmod K)
      · rw [if_pos hjP] at q1
        have q1' : FS Try.prog 44 [VC K b, .int .i64 (j : Int)] (.tup [.int .i64 y, .bool true]) := q1
        generalize (gt a (j : Int)).getD 0 = z at *
        generalize (gt a (j : Int)).isSome = bz at *
        have d1 : ((j : Int) == (x.tmod K)) = true := by rw [← hjP]; simp
        have d2 : ((j : Int) != (x.tmod K)) = false := by rw [← hjP]; simp
        repeat' (conv => whnf); first
          | ((refine Or.inl ⟨by rfl, _, q1', ?_⟩))
          | ((refine Or.inl ⟨by rfl, _, q2, ?_⟩))
          | ((refine Br.of d1 ?_))
          | ((refine Br.off d2 ?_))
          | ((refine Br.beq (by rfl) ?_))
          | ((refine Br.bne (by rfl) ?_))
          | ((refine And.intro (Or.inl (Nat.zero_le _)) ?_))
          | ((refine And.intro (show _ ≤ _ from Nat.le_of_ble_eq_true rfl) ?_))
          | (refine Br.tt ?_)
          | (refine Br.ff ?_)
          | (refine Br.dec (fun h => ?_) (fun h => ?_)) <;> try (exfalso; omega)
          | (refine Br.neg ?_)
          | (refine Br.mk (fun h => ?_) (fun h => ?_))
          | (refine And.intro rfl ?_)
          | (refine And.intro (by omega) ?_)
          | (refine ⟨_, Or.inl ⟨⟨by omega, by omega⟩, rfl⟩, ?_⟩)
          | (refine And.intro (by simp only [lens_all, its_len, zs_len, vecs_len]; first | done | omega) ?_)
          | (refine And.intro (Nat.le_refl _) ?_)
          | fail
        all_goals exact ⟨j + 1, (show ((j + 1 : Nat) : Int) ≤ K by omega), (show K.toNat - (j + 1) < K.toNat - j by omega), ⟨rfl, rfl, rfl, rfl, rfl, trivial⟩, ⟨⟨rfl, rfl, trivial⟩, ⟨rfl, rfl, trivial⟩, ⟨rfl, rfl, trivial⟩, trivial⟩, rfl⟩
      · rw [if_neg hjP] at q1
        generalize (gt a (j : Int)).getD 0 = z at *
        generalize (gt a (j : Int)).isSome = bz at *
        have d1 : ((j : Int) == (x.tmod K)) = false := beq_eq_false_iff_ne.2 hjP
        have d2 : ((j : Int) != (x.tmod K)) = true := bne_iff_ne.2 hjP
        repeat' (conv => whnf); first
          | ((refine Or.inl ⟨by rfl, _, q1, ?_⟩))
          | ((refine Or.inl ⟨by rfl, _, q2, ?_⟩))
          | ((refine Br.off d1 ?_))
          | ((refine Br.of d2 ?_))
          | ((refine Br.beq (by rfl) ?_))
          | ((refine Br.bne (by rfl) ?_))
          | ((refine And.intro (Or.inl (Nat.zero_le _)) ?_))
          | ((refine And.intro (show _ ≤ _ from Nat.le_of_ble_eq_true rfl) ?_))
          | (refine Br.tt ?_)
          | (refine Br.ff ?_)
          | (refine Br.dec (fun h => ?_) (fun h => ?_)) <;> try (exfalso; omega)
          | (refine Br.neg ?_)
          | (refine Br.mk (fun h => ?_) (fun h => ?_))
          | (refine And.intro rfl ?_)
          | (refine And.intro (by omega) ?_)
          | (refine ⟨_, Or.inl ⟨⟨by omega, by omega⟩, rfl⟩, ?_⟩)
          | (refine And.intro (by simp only [lens_all, its_len, zs_len, vecs_len]; first | done | omega) ?_)
          | (refine And.intro (Nat.le_refl _) ?_)
          | fail
        all_goals exact ⟨j + 1, (show ((j + 1 : Nat) : Int) ≤ K by omega), (show K.toNat - (j + 1) < K.toNat - j by omega), ⟨rfl, rfl, rfl, rfl, rfl, trivial⟩, ⟨⟨rfl, rfl, trivial⟩, ⟨rfl, rfl, trivial⟩, ⟨rfl, rfl, trivial⟩, trivial⟩, rfl⟩
    · repeat' (conv => whnf); first
        | ((refine Or.inl ⟨by rfl, _, c4, ?_⟩))
        | ((refine Or.inl ⟨by rfl, _, c5, ?_⟩))
        | ((refine Or.inl ⟨by rfl, _, c6, ?_⟩))
        | ((refine Or.inl ⟨by rfl, _, fs_live09, ?_⟩))
        | ((refine Br.beq (by rfl) ?_))
        | ((refine Br.bne (by rfl) ?_))
        | ((refine And.intro (Or.inl (Nat.zero_le _)) ?_))
        | ((refine And.intro (show _ ≤ _ from Nat.le_of_ble_eq_true rfl) ?_))
        | (refine Br.tt ?_)
        | (refine Br.ff ?_)
        | (refine Br.dec (fun h => ?_) (fun h => ?_)) <;> try (exfalso; omega)
        | (refine Br.neg ?_)
        | (refine Br.mk (fun h => ?_) (fun h => ?_))
        | (refine And.intro rfl ?_)
        | (refine And.intro (by omega) ?_)
        | (refine ⟨_, Or.inl ⟨⟨by omega, by omega⟩, rfl⟩, ?_⟩)
        | (refine And.intro (by simp only [lens_all, its_len, zs_len, vecs_len]; first | done | omega) ?_)
        | (refine And.intro (Nat.le_refl _) ?_)
        | fail
      all_goals exact rfl
  · obtain ⟨b, hbl, c1, c4, c2, hgb⟩ := hput 0 (fun h => ⟨Int.le_refl 0, h⟩)
    by_cases hk0 : 0 < K
    · have hx0 : ¬ 0 ≤ x := fun h => hc ⟨hk0, h⟩
      repeat' (conv => whnf); first
        | ((refine Or.inl ⟨by rfl, _, ct, ?_⟩))
        | ((refine Or.inl ⟨by rfl, _, c1, ?_⟩))
        | ((refine Br.beq (by rfl) ?_))
        | ((refine Br.bne (by rfl) ?_))
        | ((refine And.intro (Or.inl (Nat.zero_le _)) ?_))
        | ((refine And.intro (show _ ≤ _ from Nat.le_of_ble_eq_true rfl) ?_))
        | (refine Br.tt ?_)
        | (refine Br.ff ?_)
        | (refine Br.dec (fun h => ?_) (fun h => ?_)) <;> try (exfalso; omega)
        | (refine Br.neg ?_)
        | (refine Br.mk (fun h => ?_) (fun h => ?_))
        | (refine And.intro rfl ?_)
        | (refine And.intro (by omega) ?_)
        | (refine ⟨_, Or.inl ⟨⟨by omega, by omega⟩, rfl⟩, ?_⟩)
        | (refine And.intro (by simp only [lens_all, its_len, zs_len, vecs_len]; first | done | omega) ?_)
        | (refine And.intro (Nat.le_refl _) ?_)
        | fail
      refine ⟨Nat, fun j => (j : Int) ≤ K, fun j => [(5, .ptr 0 0 0 0), (7, .ptr 1 0 0 0), (8, .int .i64 0), (9, .ptr 2 0 0 0), (10, .int .i64 (j : Int))], fun _ => [.vars [.int .i64 x, .int .i64 y], .vars [.int .i64 K, IL a], .vars [.int .i64 K, IL b]], fun _ => none, fun j => K.toNat - j,
        ⟨0, hK.1, ⟨rfl, rfl, rfl, rfl, rfl, trivial⟩, ⟨⟨rfl, rfl, trivial⟩, ⟨rfl, rfl, trivial⟩, ⟨rfl, rfl, trivial⟩, trivial⟩, rfl⟩, fun j hj => ?_⟩
      have hj : (j : Int) ≤ K := hj
      by_cases hjK : (j : Int) < K
      · have q1 := c2 (j : Int)
        have q2 := c3 (j : Int)
        rw [hgb (j : Int) ⟨by omega, hjK⟩] at q1
        by_cases hjP : (j : Int) = 0
        · rw [if_pos hjP] at q1
          have q1' : FS Try.prog 44 [VC K b, .int .i64 (j : Int)] (.tup [.int .i64 y, .bool true]) := q1
          generalize (gt a (j : Int)).getD 0 = z at *
          generalize (gt a (j : Int)).isSome = bz at *
          have d1 : ((j : Int) == 0) = true := by rw [← hjP]; simp
          have d2 : ((j : Int) != 0) = false := by rw [← hjP]; simp
          repeat' (conv => whnf); first
            | ((refine Or.inl ⟨by rfl, _, q1', ?_⟩))
            | ((refine Or.inl ⟨by rfl, _, q2, ?_⟩))
            | ((refine Br.of d1 ?_))
            | ((refine Br.off d2 ?_))
            | ((refine Br.beq (by rfl) ?_))
            | ((refine Br.bne (by rfl) ?_))
            | ((refine And.intro (Or.inl (Nat.zero_le _)) ?_))
            | ((refine And.intro (show _ ≤ _ from Nat.le_of_ble_eq_true rfl) ?_))
            | (refine Br.tt ?_)
            | (refine Br.ff ?_)
            | (refine Br.dec (fun h => ?_) (fun h => ?_)) <;> try (exfalso; omega)
            | (refine Br.neg ?_)
            | (refine Br.mk (fun h => ?_) (fun h => ?_))
            | (refine And.intro rfl ?_)
            | (refine And.intro (by omega) ?_)
            | (refine ⟨_, Or.inl ⟨⟨by omega, by omega⟩, rfl⟩, ?_⟩)
            | (refine And.intro (by simp only [lens_all, its_len, zs_len, vecs_len]; first | done | omega) ?_)
            | (refine And.intro (Nat.le_refl _) ?_)
            | fail
          all_goals exact ⟨j + 1, (show ((j + 1 : Nat) : Int) ≤ K by omega), (show K.toNat - (j + 1) < K.toNat - j by omega), ⟨rfl, rfl, rfl, rfl, rfl, trivial⟩, ⟨⟨rfl, rfl, trivial⟩, ⟨rfl, rfl, trivial⟩, ⟨rfl, rfl, trivial⟩, trivial⟩, rfl⟩
        · rw [if_neg hjP] at q1
          generalize (gt a (j : Int)).getD 0 = z at *
          generalize (gt a (j : Int)).isSome = bz at *
          have d1 : ((j : Int) == 0) = false := beq_eq_false_iff_ne.2 hjP
          have d2 : ((j : Int) != 0) = true := bne_iff_ne.2 hjP
          repeat' (conv => whnf); first
            | ((refine Or.inl ⟨by rfl, _, q1, ?_⟩))
            | ((refine Or.inl ⟨by rfl, _, q2, ?_⟩))
            | ((refine Br.off d1 ?_))
            | ((refine Br.of d2 ?_))
            | ((refine Br.beq (by rfl) ?_))
            | ((refine Br.bne (by rfl) ?_))
            | ((refine And.intro (Or.inl (Nat.zero_le _)) ?_))
            | ((refine And.intro (show _ ≤ _ from Nat.le_of_ble_eq_true rfl) ?_))
            | (refine Br.tt ?_)
            | (refine Br.ff ?_)
            | (refine Br.dec (fun h => ?_) (fun h => ?_)) <;> try (exfalso; omega)
            | (refine Br.neg ?_)
            | (refine Br.mk (fun h => ?_) (fun h => ?_))
            | (refine And.intro rfl ?_)
            | (refine And.intro (by omega) ?_)
            | (refine ⟨_, Or.inl ⟨⟨by omega, by omega⟩, rfl⟩, ?_⟩)
            | (refine And.intro (by simp only [lens_all, its_len, zs_len, vecs_len]; first | done | omega) ?_)
            | (refine And.intro (Nat.le_refl _) ?_)
            | fail
          all_goals exact ⟨j + 1, (show ((j + 1 : Nat) : Int) ≤ K by omega), (show K.toNat - (j + 1) < K.toNat - j by omega), ⟨rfl, rfl, rfl, rfl, rfl, trivial⟩, ⟨⟨rfl, rfl, trivial⟩, ⟨rfl, rfl, trivial⟩, ⟨rfl, rfl, trivial⟩, trivial⟩, rfl⟩
      · repeat' (conv => whnf); first
          | ((refine Or.inl ⟨by rfl, _, c4, ?_⟩))
          | ((refine Or.inl ⟨by rfl, _, c5, ?_⟩))
          | ((refine Or.inl ⟨by rfl, _, c6, ?_⟩))
          | ((refine Or.inl ⟨by rfl, _, fs_live09, ?_⟩))
          | ((refine Br.beq (by rfl) ?_))
          | ((refine Br.bne (by rfl) ?_))
          | ((refine And.intro (Or.inl (Nat.zero_le _)) ?_))
          | ((refine And.intro (show _ ≤ _ from Nat.le_of_ble_eq_true rfl) ?_))
          | (refine Br.tt ?_)
          | (refine Br.ff ?_)
          | (refine Br.dec (fun h => ?_) (fun h => ?_)) <;> try (exfalso; omega)
          | (refine Br.neg ?_)
          | (refine Br.mk (fun h => ?_) (fun h => ?_))
          | (refine And.intro rfl ?_)
          | (refine And.intro (by omega) ?_)
          | (refine ⟨_, Or.inl ⟨⟨by omega, by omega⟩, rfl⟩, ?_⟩)
          | (refine And.intro (by simp only [lens_all, its_len, zs_len, vecs_len]; first | done | omega) ?_)
          | (refine And.intro (Nat.le_refl _) ?_)
          | fail
        all_goals exact rfl
    · clear hc
      repeat' (conv => whnf); first
        | ((refine Or.inl ⟨by rfl, _, ct, ?_⟩))
        | ((refine Or.inl ⟨by rfl, _, c1, ?_⟩))
        | ((refine Br.beq (by rfl) ?_))
        | ((refine Br.bne (by rfl) ?_))
        | ((refine And.intro (Or.inl (Nat.zero_le _)) ?_))
        | ((refine And.intro (show _ ≤ _ from Nat.le_of_ble_eq_true rfl) ?_))
        | (refine Br.tt ?_)
        | (refine Br.ff ?_)
        | (refine Br.dec (fun h => ?_) (fun h => ?_)) <;> try (exfalso; omega)
        | (refine Br.neg ?_)
        | (refine Br.mk (fun h => ?_) (fun h => ?_))
        | (refine And.intro rfl ?_)
        | (refine And.intro (by omega) ?_)
        | (refine ⟨_, Or.inl ⟨⟨by omega, by omega⟩, rfl⟩, ?_⟩)
        | (refine And.intro (by simp only [lens_all, its_len, zs_len, vecs_len]; first | done | omega) ?_)
        | (refine And.intro (Nat.le_refl _) ?_)
        | fail
      refine ⟨Nat, fun j => (j : Int) ≤ K, fun j => [(5, .ptr 0 0 0 0), (7, .ptr 1 0 0 0), (8, .int .i64 0), (9, .ptr 2 0 0 0), (10, .int .i64 (j : Int))], fun _ => [.vars [.int .i64 x, .int .i64 y], .vars [.int .i64 K, IL a], .vars [.int .i64 K, IL b]], fun _ => none, fun j => K.toNat - j,
        ⟨0, hK.1, ⟨rfl, rfl, rfl, rfl, rfl, trivial⟩, ⟨⟨rfl, rfl, trivial⟩, ⟨rfl, rfl, trivial⟩, ⟨rfl, rfl, trivial⟩, trivial⟩, rfl⟩, fun j hj => ?_⟩
      have hj : (j : Int) ≤ K := hj
      by_cases hjK : (j : Int) < K
      · have q1 := c2 (j : Int)
        have q2 := c3 (j : Int)
        rw [hgb (j : Int) ⟨by omega, hjK⟩] at q1
        by_cases hjP : (j : Int) = 0
        · rw [if_pos hjP] at q1
          have q1' : FS Try.prog 44 [VC K b, .int .i64 (j : Int)] (.tup [.int .i64 y, .bool true]) := q1
          generalize (gt a (j : Int)).getD 0 = z at *
          generalize (gt a (j : Int)).isSome = bz at *
          have d1 : ((j : Int) == 0) = true := by rw [← hjP]; simp
          have d2 : ((j : Int) != 0) = false := by rw [← hjP]; simp
          repeat' (conv => whnf); first
            | ((refine Or.inl ⟨by rfl, _, q1', ?_⟩))
            | ((refine Or.inl ⟨by rfl, _, q2, ?_⟩))
            | ((refine Br.of d1 ?_))
            | ((refine Br.off d2 ?_))
            | ((refine Br.beq (by rfl) ?_))
            | ((refine Br.bne (by rfl) ?_))
            | ((refine And.intro (Or.inl (Nat.zero_le _)) ?_))
            | ((refine And.intro (show _ ≤ _ from Nat.le_of_ble_eq_true rfl) ?_))
            | (refine Br.tt ?_)
            | (refine Br.ff ?_)
            | (refine Br.dec (fun h => ?_) (fun h => ?_)) <;> try (exfalso; omega)
            | (refine Br.neg ?_)
            | (refine Br.mk (fun h => ?_) (fun h => ?_))
            | (refine And.intro rfl ?_)
            | (refine And.intro (by omega) ?_)
            | (refine ⟨_, Or.inl ⟨⟨by omega, by omega⟩, rfl⟩, ?_⟩)
            | (refine And.intro (by simp only [lens_all, its_len, zs_len, vecs_len]; first | done | omega) ?_)
            | (refine And.intro (Nat.le_refl _) ?_)
            | fail
          all_goals exact ⟨j + 1, (show ((j + 1 : Nat) : Int) ≤ K by omega), (show K.toNat - (j + 1) < K.toNat - j by omega), ⟨rfl, rfl, rfl, rfl, rfl, trivial⟩, ⟨⟨rfl, rfl, trivial⟩, ⟨rfl, rfl, trivial⟩, ⟨rfl, rfl, trivial⟩, trivial⟩, rfl⟩
        · rw [if_neg hjP] at q1
          generalize (gt a (j : Int)).getD 0 = z at *
          generalize (gt a (j : Int)).isSome = bz at *
          have d1 : ((j : Int) == 0) = false := beq_eq_false_iff_ne.2 hjP
          have d2 : ((j : Int) != 0) = true := bne_iff_ne.2 hjP
          repeat' (conv => whnf); first
            | ((refine Or.inl ⟨by rfl, _, q1, ?_⟩))
            | ((refine Or.inl ⟨by rfl, _, q2, ?_⟩))
            | ((refine Br.off d1 ?_))
            | ((refine Br.of d2 ?_))
            | ((refine Br.beq (by rfl) ?_))
            | ((refine Br.bne (by rfl) ?_))
            | ((refine And.intro (Or.inl (Nat.zero_le _)) ?_))
            | ((refine And.intro (show _ ≤ _ from Nat.le_of_ble_eq_true rfl) ?_))
            | (refine Br.tt ?_)
            | (refine Br.ff ?_)
            | (refine Br.dec (fun h => ?_) (fun h => ?_)) <;> try (exfalso; omega)
            | (refine Br.neg ?_)
            | (refine Br.mk (fun h => ?_) (fun h => ?_))
            | (refine And.intro rfl ?_)
            | (refine And.intro (by omega) ?_)
            | (refine ⟨_, Or.inl ⟨⟨by omega, by omega⟩, rfl⟩, ?_⟩)
            | (refine And.intro (by simp only [lens_all, its_len, zs_len, vecs_len]; first | done | omega) ?_)
            | (refine And.intro (Nat.le_refl _) ?_)
            | fail
          all_goals exact ⟨j + 1, (show ((j + 1 : Nat) : Int) ≤ K by omega), (show K.toNat - (j + 1) < K.toNat - j by omega), ⟨rfl, rfl, rfl, rfl, rfl, trivial⟩, ⟨⟨rfl, rfl, trivial⟩, ⟨rfl, rfl, trivial⟩, ⟨rfl, rfl, trivial⟩, trivial⟩, rfl⟩
      · repeat' (conv => whnf); first
          | ((refine Or.inl ⟨by rfl, _, c4, ?_⟩))
          | ((refine Or.inl ⟨by rfl, _, c5, ?_⟩))
          | ((refine Or.inl ⟨by rfl, _, c6, ?_⟩))
          | ((refine Or.inl ⟨by rfl, _, fs_live09, ?_⟩))
          | ((refine Br.beq (by rfl) ?_))
          | ((refine Br.bne (by rfl) ?_))
          | ((refine And.intro (Or.inl (Nat.zero_le _)) ?_))
          | ((refine And.intro (show _ ≤ _ from Nat.le_of_ble_eq_true rfl) ?_))
          | (refine Br.tt ?_)
          | (refine Br.ff ?_)
          | (refine Br.dec (fun h => ?_) (fun h => ?_)) <;> try (exfalso; omega)
          | (refine Br.neg ?_)
          | (refine Br.mk (fun h => ?_) (fun h => ?_))
          | (refine And.intro rfl ?_)
          | (refine And.intro (by omega) ?_)
          | (refine ⟨_, Or.inl ⟨⟨by omega, by omega⟩, rfl⟩, ?_⟩)
          | (refine And.intro (by simp only [lens_all, its_len, zs_len, vecs_len]; first | done | omega) ?_)
          | (refine And.intro (Nat.le_refl _) ?_)
          | fail
        all_goals exact rfl
end
section
open Go.RowKit
attribute [local irreducible] FS FO IT HS

theorem its_cut (l : List (Int × Int)) : IL (l.take 60) = .slc 2 (List.drop 0 (List.take 60 (its l))) := by
  rw [List.drop_zero, its_take]; rfl
theorem its_cut' (l : List (Int × Int)) : SV.slc 2 (its (l.take 60)) = .slc 2 (List.drop 0 (List.take 60 (its l))) := its_cut l
theorem cut_go {l : List (Int × Int)} {K : List SV → Prop} (h : K [.int .i64 (l.getD 0 (0, 0)).1, .int .i64 (l.getD 0 (0, 0)).2]) : ∀ x, (List.drop 0 (List.take 60 (its l)))[0]? = some x → K x := fun x hx => by
  have : (its l)[0]? = some x := by
    rw [List.drop_zero, List.getElem?_take_of_lt (by omega)] at hx; exact hx
  exact its_go (i := 0) rfl h x this
theorem ofR_len (r n : Int) (l : List (Int × Int)) : (ofR r n l).2.1.length ≤ l.length := by
  unfold ofR
  split
  · split
    · split
      · split
        · have := cmbR_len r (l.map toE)
          simpa using this
        · simp
      · simp
    · simp
  · simp

def ir_fretworklaw09_SpvecOf : IR :=
(.seq (.reg (⟨(some 6), .mv (.c (.bool false)), none⟩ :: [])) (.seq (.seq (.reg (⟨(some 12), .mv (.t 2), none⟩ ::⟨(some 13), .ln (.t 12), none⟩ ::⟨(some 14), .bin .gtr (.t 13) (.c (.int .i64 60)), none⟩ :: [])) (.cond (.t 14) (.reg (⟨(some 15), .mv (.t 2), none⟩ ::⟨(some 16), .sl 2 (.t 15) none (some (.c (.int .i64 60))) none, none⟩ ::⟨(some 2), .mv (.t 16), none⟩ :: [])) .skip)) (.seq (.reg (⟨(some 18), .mv (.t 0), none⟩ ::⟨(some 19), .mv (.t 1), none⟩ ::⟨(some 20), .mv (.t 2), none⟩ ::⟨(some 21), .call (.c (.fn 49 [])) [(.t 18), (.t 19), (.t 20)], none⟩ ::⟨(some 17), .mv (.t 21), none⟩ ::⟨(some 22), .ex 0 (.t 17), none⟩ ::⟨(some 23), .ex 1 (.t 17), none⟩ ::⟨(some 7), .al [.int .i64 0, .nils], none⟩ ::⟨none, .st 2 (.t 7) (.t 22), none⟩ ::⟨(some 8), .mv (.t 23), none⟩ :: [])) (.seq (.reg (⟨(some 25), .mv (.t 0), none⟩ ::⟨(some 26), .mv (.t 1), none⟩ ::⟨(some 27), .mv (.t 2), none⟩ ::⟨(some 28), .call (.c (.fn 50 [])) [(.t 25), (.t 26), (.t 27)], none⟩ ::⟨(some 24), .mv (.t 28), none⟩ ::⟨(some 29), .ex 0 (.t 24), none⟩ ::⟨(some 30), .ex 1 (.t 24), none⟩ ::⟨(some 9), .al [.int .i64 0, .nils], none⟩ ::⟨none, .st 2 (.t 9) (.t 29), none⟩ ::⟨(some 10), .mv (.t 30), none⟩ :: [])) (.seq (.reg (⟨(some 11), .mv (.c (.int .i64 0)), none⟩ :: [])) (.seq (.seq (.reg (⟨(some 31), .mv (.t 2), none⟩ ::⟨(some 32), .ln (.t 31), none⟩ ::⟨(some 33), .bin .gtr (.t 32) (.c (.int .i64 0)), none⟩ :: [])) (.cond (.t 33) (.reg (⟨(some 34), .mv (.t 2), none⟩ ::⟨(some 35), .ia 2 (.t 34) (.c (.int .i64 0)), none⟩ ::⟨(some 36), .fa 1 (.t 35), none⟩ ::⟨(some 37), .ld 1 false (.t 36), none⟩ ::⟨(some 11), .mv (.t 37), none⟩ :: [])) .skip)) (.seq (.reg (⟨(some 38), .call (.c (.fn 51 [])) [], none⟩ ::⟨(some 39), .mv (.t 38), none⟩ ::⟨(some 40), .ld 2 true (.t 7), some (39, true)⟩ ::⟨(some 41), .ld 2 true (.t 9), some (39, true)⟩ ::⟨(some 42), .call (.c (.fn 19 [])) [(.t 40), (.t 41)], some (39, true)⟩ ::⟨(some 43), .pick (.t 39) (.t 42) (.c (.bool false)), none⟩ ::⟨(some 44), .mv (.t 43), none⟩ ::⟨(some 45), .mv (.t 8), some (44, true)⟩ ::⟨(some 46), .mv (.t 10), some (44, true)⟩ ::⟨(some 47), .bin .eql (.t 45) (.t 46), some (44, true)⟩ ::⟨(some 48), .pick (.t 44) (.t 47) (.c (.bool false)), none⟩ ::⟨(some 49), .mv (.t 48), none⟩ ::⟨(some 50), .mv (.t 1), some (49, true)⟩ ::⟨(some 51), .mv (.t 11), some (49, true)⟩ ::⟨(some 52), .call (.c (.fn 45 [])) [(.t 50), (.t 51)], some (49, true)⟩ ::⟨(some 53), .mv (.t 1), some (49, true)⟩ ::⟨(some 54), .mv (.t 11), some (49, true)⟩ ::⟨(some 55), .call (.c (.fn 52 [])) [(.t 53), (.t 54)], some (49, true)⟩ ::⟨(some 56), .call (.c (.fn 19 [])) [(.t 52), (.t 55)], some (49, true)⟩ ::⟨(some 57), .pick (.t 49) (.t 56) (.c (.bool false)), none⟩ ::⟨(some 6), .mv (.t 57), none⟩ :: [])) .ret)))))))
theorem cd_fretworklaw09_SpvecOf : Code1 Try.prog 9 58 ir_fretworklaw09_SpvecOf [.t 6] := ⟨Try.call9, _, _, Try.func9, rfl, by kernel_rfl, by kernel_rfl, by kernel_rfl, by kernel_rfl⟩

set_option maxHeartbeats 16000000 in
theorem fs_SpvecOf (r n : Int) (l : List (Int × Int)) (hb : Ib l) : FS Try.prog 9 [.int .i64 r, .int .i64 n, IL l] (.bool true) := by
  refine fs_of_cvc mixed cd_fretworklaw09_SpvecOf (by simp) ?_
  have hil := its_len l
  have c4 := fun v => fs_Fill n v
  have c5 := fun v => fs_r9Fill n v
  by_cases hl : l.length ≤ 60
  · have hb' := hb
    have c1 := fs_vOf r n (l) (by omega) hb'
    have c2 := fo_r9Of r n (l) (by omega) hb'
    have hlen := ofR_len r n (l)
    generalize ofR r n (l) = t at *
    obtain ⟨t1, tl, te⟩ := t
    simp only at hlen c2
    have c3 := fs_same9 t1 tl (by omega)
    have c3' : FS Try.prog 19 [VC t1 tl, .agg [.int .i64 t1, .slc 2 (List.take tl.length (List.drop 0 (its tl)))]] (.bool true) := by rw [frz_its]; exact c3
    have htl := its_len tl
    have c2' := c2
    by_cases hn : 0 ≤ n ∧ n ≤ 4096
    · simp only [if_pos hn] at c4 c5
      have c6 : ∀ v, FS Try.prog 19 [VC n (filL n.toNat v), VC n (filL n.toNat v)] (.bool true) := fun v => fs_same9 n (filL n.toNat v) (by rw [filL_len]; omega)
      repeat' (conv => whnf); first
        | ((refine Or.inl ⟨by rfl, _, c1, ?_⟩))
        | ((refine Or.inl ⟨by rfl, _, c3, ?_⟩))
        | ((refine Or.inl ⟨by rfl, _, c4 _, ?_⟩))
        | ((refine Or.inl ⟨by rfl, _, c5 _, ?_⟩))
        | ((refine Or.inl ⟨by rfl, _, c6 _, ?_⟩))
        | ((refine Or.inl ⟨by rfl, _, fs_live09, ?_⟩))
        | ((refine Or.inr (Or.inl ⟨by rfl, _, _, c2', ?_⟩)))
        | ((refine its_go (i := 0) rfl ?_))
        | ((refine ⟨_, c3', rfl, ?_⟩))
        | ((refine Or.inr (Or.inr (Or.inl ?_))))
        | ((refine Br.beq (by rfl) ?_))
        | ((refine Br.bne (by rfl) ?_))
        | ((refine And.intro (Or.inl (Nat.zero_le _)) ?_))
        | ((refine And.intro (show _ ≤ _ from Nat.le_of_ble_eq_true rfl) ?_))
        | ((refine And.intro (by intro y hy; simp at hy; subst hy; rfl) ?_))
        | (refine Br.tt ?_)
        | (refine Br.ff ?_)
        | (refine Br.dec (fun h => ?_) (fun h => ?_)) <;> try (exfalso; omega)
        | (refine Br.neg ?_)
        | (refine Br.mk (fun h => ?_) (fun h => ?_))
        | (refine And.intro rfl ?_)
        | (refine And.intro (by omega) ?_)
        | (refine ⟨_, Or.inl ⟨⟨by omega, by omega⟩, rfl⟩, ?_⟩)
        | (refine And.intro (by simp only [lens_all, its_len, zs_len, vecs_len]; first | done | omega) ?_)
        | (refine And.intro (Nat.le_refl _) ?_)
        | fail
      all_goals first | exact rfl | exact absurd rfl (by assumption)
    · simp only [if_neg hn] at c4 c5
      have c6 := fs_same9 0 [] (by simp)
      repeat' (conv => whnf); first
        | ((refine Or.inl ⟨by rfl, _, c1, ?_⟩))
        | ((refine Or.inl ⟨by rfl, _, c3, ?_⟩))
        | ((refine Or.inl ⟨by rfl, _, c4 _, ?_⟩))
        | ((refine Or.inl ⟨by rfl, _, c5 _, ?_⟩))
        | ((refine Or.inl ⟨by rfl, _, c6, ?_⟩))
        | ((refine Or.inl ⟨by rfl, _, fs_live09, ?_⟩))
        | ((refine Or.inr (Or.inl ⟨by rfl, _, _, c2', ?_⟩)))
        | ((refine its_go (i := 0) rfl ?_))
        | ((refine ⟨_, c3', rfl, ?_⟩))
        | ((refine Or.inr (Or.inr (Or.inl ?_))))
        | ((refine Br.beq (by rfl) ?_))
        | ((refine Br.bne (by rfl) ?_))
        | ((refine And.intro (Or.inl (Nat.zero_le _)) ?_))
        | ((refine And.intro (show _ ≤ _ from Nat.le_of_ble_eq_true rfl) ?_))
        | ((refine And.intro (by intro y hy; simp at hy; subst hy; rfl) ?_))
        | (refine Br.tt ?_)
        | (refine Br.ff ?_)
        | (refine Br.dec (fun h => ?_) (fun h => ?_)) <;> try (exfalso; omega)
        | (refine Br.neg ?_)
        | (refine Br.mk (fun h => ?_) (fun h => ?_))
        | (refine And.intro rfl ?_)
        | (refine And.intro (by omega) ?_)
        | (refine ⟨_, Or.inl ⟨⟨by omega, by omega⟩, rfl⟩, ?_⟩)
        | (refine And.intro (by simp only [lens_all, its_len, zs_len, vecs_len]; first | done | omega) ?_)
        | (refine And.intro (Nat.le_refl _) ?_)
        | fail
      all_goals first | exact rfl | exact absurd rfl (by assumption)
  · have hb' : Ib (l.take 60) := fun x hx => hb x (List.mem_of_mem_take hx)
    have hl' : (l.take 60).length ≤ 60 := by simp; omega
    have c1 := fs_vOf r n (l.take 60) (by omega) hb'
    have c2 := fo_r9Of r n (l.take 60) (by omega) hb'
    have hlen := ofR_len r n (l.take 60)
    generalize ofR r n (l.take 60) = t at *
    obtain ⟨t1, tl, te⟩ := t
    simp only at hlen c2
    have c3 := fs_same9 t1 tl (by omega)
    have c3' : FS Try.prog 19 [VC t1 tl, .agg [.int .i64 t1, .slc 2 (List.take tl.length (List.drop 0 (its tl)))]] (.bool true) := by rw [frz_its]; exact c3
    have htl := its_len tl
    rw [its_cut] at c1
    have c2' : FO Try.prog 50 [.int .i64 r, .int .i64 n, .slc 2 (List.drop 0 (List.take 60 (its l)))] (.tup [.agg [.int .i64 t1, .osl 0 2 0 tl.length], .int .i64 te]) [.arr 2 (its tl)] := by rw [← its_cut']; exact c2
    by_cases hn : 0 ≤ n ∧ n ≤ 4096
    · simp only [if_pos hn] at c4 c5
      have c6 : ∀ v, FS Try.prog 19 [VC n (filL n.toNat v), VC n (filL n.toNat v)] (.bool true) := fun v => fs_same9 n (filL n.toNat v) (by rw [filL_len]; omega)
      repeat' (conv => whnf); first
        | ((refine Or.inl ⟨by rfl, _, c1, ?_⟩))
        | ((refine Or.inl ⟨by rfl, _, c3, ?_⟩))
        | ((refine Or.inl ⟨by rfl, _, c4 _, ?_⟩))
        | ((refine Or.inl ⟨by rfl, _, c5 _, ?_⟩))
        | ((refine Or.inl ⟨by rfl, _, c6 _, ?_⟩))
        | ((refine Or.inl ⟨by rfl, _, fs_live09, ?_⟩))
        | ((refine Or.inr (Or.inl ⟨by rfl, _, _, c2', ?_⟩)))
        | ((refine cut_go ?_))
        | ((refine ⟨_, c3', rfl, ?_⟩))
        | ((refine Or.inr (Or.inr (Or.inl ?_))))
        | ((refine Br.beq (by rfl) ?_))
        | ((refine Br.bne (by rfl) ?_))
        | ((refine And.intro (Or.inl (Nat.zero_le _)) ?_))
        | ((refine And.intro (show _ ≤ _ from Nat.le_of_ble_eq_true rfl) ?_))
        | ((refine And.intro (by intro y hy; simp at hy; subst hy; rfl) ?_))
        | (refine Br.tt ?_)
        | (refine Br.ff ?_)
        | (refine Br.dec (fun h => ?_) (fun h => ?_)) <;> try (exfalso; omega)
        | (refine Br.neg ?_)
        | (refine Br.mk (fun h => ?_) (fun h => ?_))
        | (refine And.intro rfl ?_)
        | (refine And.intro (by omega) ?_)
        | (refine ⟨_, Or.inl ⟨⟨by omega, by omega⟩, rfl⟩, ?_⟩)
        | (refine And.intro (by simp only [lens_all, its_len, zs_len, vecs_len]; first | done | omega) ?_)
        | (refine And.intro (Nat.le_refl _) ?_)
        | fail
      all_goals first | exact rfl | exact absurd rfl (by assumption)
    · simp only [if_neg hn] at c4 c5
      have c6 := fs_same9 0 [] (by simp)
      repeat' (conv => whnf); first
        | ((refine Or.inl ⟨by rfl, _, c1, ?_⟩))
        | ((refine Or.inl ⟨by rfl, _, c3, ?_⟩))
        | ((refine Or.inl ⟨by rfl, _, c4 _, ?_⟩))
        | ((refine Or.inl ⟨by rfl, _, c5 _, ?_⟩))
        | ((refine Or.inl ⟨by rfl, _, c6, ?_⟩))
        | ((refine Or.inl ⟨by rfl, _, fs_live09, ?_⟩))
        | ((refine Or.inr (Or.inl ⟨by rfl, _, _, c2', ?_⟩)))
        | ((refine cut_go ?_))
        | ((refine ⟨_, c3', rfl, ?_⟩))
        | ((refine Or.inr (Or.inr (Or.inl ?_))))
        | ((refine Br.beq (by rfl) ?_))
        | ((refine Br.bne (by rfl) ?_))
        | ((refine And.intro (Or.inl (Nat.zero_le _)) ?_))
        | ((refine And.intro (show _ ≤ _ from Nat.le_of_ble_eq_true rfl) ?_))
        | ((refine And.intro (by intro y hy; simp at hy; subst hy; rfl) ?_))
        | (refine Br.tt ?_)
        | (refine Br.ff ?_)
        | (refine Br.dec (fun h => ?_) (fun h => ?_)) <;> try (exfalso; omega)
        | (refine Br.neg ?_)
        | (refine Br.mk (fun h => ?_) (fun h => ?_))
        | (refine And.intro rfl ?_)
        | (refine And.intro (by omega) ?_)
        | (refine ⟨_, Or.inl ⟨⟨by omega, by omega⟩, rfl⟩, ?_⟩)
        | (refine And.intro (by simp only [lens_all, its_len, zs_len, vecs_len]; first | done | omega) ?_)
        | (refine And.intro (Nat.le_refl _) ?_)
        | fail
      all_goals first | exact rfl | exact absurd rfl (by assumption)

def ir_fretworklaw09_SpvecDoes : IR :=
(.seq (.reg (⟨(some 3), .bx (.t 0), none⟩ ::⟨(some 4), .bx (.t 1), none⟩ ::⟨(some 6), .mv (.c (.bool false)), none⟩ :: [])) (.seq (.reg (⟨(some 11), .ld 2 true (.t 3), none⟩ ::⟨(some 12), .call (.c (.fn 14 [])) [(.t 11)], none⟩ ::⟨none, .st 2 (.t 3) (.t 12), none⟩ :: [])) (.seq (.reg (⟨(some 14), .ld 2 true (.t 3), none⟩ ::⟨(some 15), .iaA 2 1 (.t 4) (.c (.int .i64 0)), none⟩ ::⟨(some 16), .ld 1 false (.t 15), none⟩ ::⟨(some 17), .call (.c (.fn 44 [])) [(.t 14), (.t 16)], none⟩ ::⟨(some 13), .mv (.t 17), none⟩ ::⟨(some 18), .ex 0 (.t 13), none⟩ ::⟨(some 19), .ex 1 (.t 13), none⟩ ::⟨(some 7), .mv (.t 18), none⟩ ::⟨(some 8), .mv (.t 19), none⟩ :: [])) (.seq (.reg (⟨(some 21), .ld 2 true (.t 3), none⟩ ::⟨(some 22), .iaA 2 1 (.t 4) (.c (.int .i64 0)), none⟩ ::⟨(some 23), .ld 1 false (.t 22), none⟩ ::⟨(some 24), .call (.c (.fn 53 [])) [(.t 21), (.t 23)], none⟩ ::⟨(some 20), .mv (.t 24), none⟩ ::⟨(some 25), .ex 0 (.t 20), none⟩ ::⟨(some 26), .ex 1 (.t 20), none⟩ ::⟨(some 9), .mv (.t 25), none⟩ ::⟨(some 10), .mv (.t 26), none⟩ :: [])) (.seq (.draw (⟨(some 27), .call (.c (.fn 51 [])) [], none⟩ ::⟨(some 28), .mv (.t 27), none⟩ ::⟨(some 29), .ld 2 true (.t 3), some (28, true)⟩ ::⟨(some 30), .call (.c (.fn 54 [])) [(.t 29)], some (28, true)⟩ ::⟨(some 31), .ld 2 true (.t 3), some (28, true)⟩ ::⟨(some 32), .call (.c (.fn 55 [])) [(.t 31)], some (28, true)⟩ ::⟨(some 33), .beq false (.t 30) (.t 32), some (28, true)⟩ ::⟨(some 34), .pick (.t 28) (.t 33) (.c (.bool false)), none⟩ ::⟨(some 35), .mv (.t 34), none⟩ ::⟨(some 36), .mv (.t 7), some (35, true)⟩ ::⟨(some 37), .mv (.t 9), some (35, true)⟩ ::⟨(some 38), .bin .eql (.t 36) (.t 37), some (35, true)⟩ ::⟨(some 39), .pick (.t 35) (.t 38) (.c (.bool false)), none⟩ ::⟨(some 40), .mv (.t 39), none⟩ ::⟨(some 41), .mv (.t 8), some (40, true)⟩ ::⟨(some 42), .mv (.t 10), some (40, true)⟩ ::⟨(some 43), .beq false (.t 41) (.t 42), some (40, true)⟩ ::⟨(some 44), .pick (.t 40) (.t 43) (.c (.bool false)), none⟩ ::⟨(some 45), .mv (.t 44), none⟩ ::⟨(some 46), .ld 2 true (.t 3), some (45, true)⟩ ::⟨(some 47), .iaA 2 1 (.t 4) (.c (.int .i64 0)), some (45, true)⟩ ::⟨(some 48), .ld 1 false (.t 47), some (45, true)⟩ ::⟨(some 49), .mv (.t 2), some (45, true)⟩ ::⟨(some 50), .call (.c (.fn 47 [])) [(.t 46), (.t 48), (.t 49)], some (45, true)⟩ ::⟨(some 51), .ld 2 true (.t 3), some (45, true)⟩ ::⟨(some 52), .iaA 2 1 (.t 4) (.c (.int .i64 0)), some (45, true)⟩ ::⟨(some 53), .ld 1 false (.t 52), some (45, true)⟩ ::⟨(some 54), .mv (.t 2), some (45, true)⟩ ::⟨(some 55), .call (.c (.fn 56 [])) [(.t 51), (.t 53), (.t 54)], some (45, true)⟩ ::⟨(some 56), .call (.c (.fn 19 [])) [(.t 50), (.t 55)], some (45, true)⟩ ::⟨(some 57), .pick (.t 45) (.t 56) (.c (.bool false)), none⟩ ::⟨(some 58), .mv (.t 57), none⟩ ::⟨(some 59), .ld 2 true (.t 3), some (58, true)⟩ ::⟨(some 60), .iaA 2 1 (.t 4) (.c (.int .i64 0)), some (58, true)⟩ ::⟨(some 61), .ld 1 false (.t 60), some (58, true)⟩ ::⟨(some 62), .call (.c (.fn 48 [])) [(.t 59), (.t 61)], some (58, true)⟩ ::⟨(some 63), .ld 2 true (.t 3), some (58, true)⟩ ::⟨(some 64), .iaA 2 1 (.t 4) (.c (.int .i64 0)), some (58, true)⟩ ::⟨(some 65), .ld 1 false (.t 64), some (58, true)⟩ ::⟨(some 66), .call (.c (.fn 57 [])) [(.t 63), (.t 65)], some (58, true)⟩ ::⟨(some 67), .call (.c (.fn 19 [])) [(.t 62), (.t 66)], some (58, true)⟩ ::⟨(some 68), .pick (.t 58) (.t 67) (.c (.bool false)), none⟩ ::⟨(some 69), .mv (.t 68), none⟩ ::⟨(some 70), .ld 2 true (.t 3), some (69, true)⟩ ::⟨(some 71), .call (.c (.fn 59 [])) [(.t 70)], some (69, true)⟩ ::⟨(some 72), .ld 2 true (.t 3), some (69, true)⟩ ::⟨(some 73), .call (.c (.fn 60 [])) [(.t 72)], some (69, true)⟩ ::⟨(some 74), .call (.c (.fn 58 [])) [(.t 71), (.t 73)], some (69, true)⟩ ::⟨(some 75), .pick (.t 69) (.t 74) (.c (.bool false)), none⟩ ::⟨(some 76), .mv (.t 75), none⟩ ::⟨(some 77), .ld 2 true (.t 3), some (76, true)⟩ ::⟨(some 78), .call (.c (.fn 61 [])) [(.t 77)], some (76, true)⟩ ::⟨(some 79), .ld 2 true (.t 3), some (76, true)⟩ ::⟨(some 80), .call (.c (.fn 62 [])) [(.t 79)], some (76, true)⟩ ::⟨(some 81), .call (.c (.fn 19 [])) [(.t 78), (.t 80)], some (76, true)⟩ ::⟨(some 82), .pick (.t 76) (.t 81) (.c (.bool false)), none⟩ ::⟨(some 83), .mv (.t 82), none⟩ ::⟨(some 84), .ld 2 true (.t 3), some (83, true)⟩ ::⟨(some 85), .iaA 2 1 (.t 4) (.c (.int .i64 0)), some (83, true)⟩ ::⟨(some 86), .ld 1 false (.t 85), some (83, true)⟩ ::⟨(some 87), .iaA 2 1 (.t 4) (.c (.int .i64 1)), some (83, true)⟩ ::⟨(some 88), .ld 1 false (.t 87), some (83, true)⟩ ::⟨(some 89), .call (.c (.fn 42 [])) [(.t 84), (.t 86), (.t 88)], some (83, true)⟩ ::⟨(some 90), .ld 2 true (.t 3), some (83, true)⟩ ::⟨(some 91), .iaA 2 1 (.t 4) (.c (.int .i64 0)), some (83, true)⟩ ::⟨(some 92), .ld 1 false (.t 91), some (83, true)⟩ ::⟨(some 93), .iaA 2 1 (.t 4) (.c (.int .i64 1)), some (83, true)⟩ ::⟨(some 94), .ld 1 false (.t 93), some (83, true)⟩ :: []) (⟨(some 95), .call (.c (.fn 63 [])) [(.t 90), (.t 92), (.t 94)], some (83, true)⟩ ::⟨(some 96), .call (.c (.fn 19 [])) [(.t 89), (.t 95)], some (83, true)⟩ ::⟨(some 97), .pick (.t 83) (.t 96) (.c (.bool false)), none⟩ ::⟨(some 6), .mv (.t 97), none⟩ :: [])) .ret)))))
theorem cd_fretworklaw09_SpvecDoes : Code1 Try.prog 10 98 ir_fretworklaw09_SpvecDoes [.t 6] := ⟨Try.call10, _, _, Try.func10, rfl, by kernel_rfl, by kernel_rfl, by kernel_rfl, by kernel_rfl⟩

set_option maxHeartbeats 8000000 in
theorem fs_SpvecDoes (n : Int) (l : List (Int × Int)) (p q v : Int) (hp : I64 p) (hq : I64 q) : FS Try.prog 10 [VC n l, .agg [.int .i64 p, .int .i64 q], .int .i64 v] (.bool true) := by
  refine fs_of_cvc mixed cd_fretworklaw09_SpvecDoes (by simp) ?_
  have f1 := fs_Few n l
  have e1 : (l.take 60).length ≤ 60 := by simp; omega
  generalize l.take 60 = a at *
  have hs := okV n a
  have c1 := fs_Get n a p (by omega)
  rw [valI_gt, hasI'_gt] at c1
  have c2 := fs_r9Get n a p (by omega)
  have c3 := fs_vRight n a (by omega)
  have c4 := fs_r9Right n a (by omega)
  have c5 := fs_vPut n a p v (by omega)
  have c6 := fs_r9Put n a p v (by omega)
  have hput : OkV (sn n a) (putR (sn n a) (sl n a) p v) := hs.put
  have c7 := fs_same9 (sn n a) (putR (sn n a) (sl n a) p v) (by have := hput.le; omega)
  have c8 := fs_vDrop n a p (by omega)
  have c9 := fs_r9Drop n a p (by omega)
  have ca := fs_same9 (sn n a) (rest (fun x => decide (x.1 = p)) (sl n a)) (Nat.le_trans (hs.filt _).le (by omega))
  have cb := fs_vPlaces n a (by omega)
  have cc : FS Try.prog 60 [VC n a] (Z (plsI (sl n a))) := fs_r9Places n a (by omega)
  have cd := fs_SameInts (plsI (sl n a)) (plsI (sl n a)) (by have := hs.le; simp [plsI]; omega)
  rw [decide_eq_true rfl] at cd
  have ce := fs_vIndex n a (by omega)
  have cf := fs_r9Index n a (by omega)
  have cg := fs_same9 (sn n a) (idxL (sl n a)) (by rw [idxL_len]; have := hs.le; omega)
  have ch := fs_vPart n a p q (by omega) hp hq
  have ci := fs_r9Part n a p q (by omega) hp hq
  have ho := okV_ptR hs p q
  have cj := fs_same9 (ptR (sn n a) (sl n a) p q).1 (ptR (sn n a) (sl n a) p q).2 (by have := ho.le; omega)
  generalize (ptR (sn n a) (sl n a) p q).1 = N2 at *
  generalize (ptR (sn n a) (sl n a) p q).2 = a2 at *
  generalize idxL (sl n a) = a3 at *
  generalize plsI (sl n a) = a4 at *
  generalize rest (fun x => decide (x.1 = p)) (sl n a) = a5 at *
  generalize putR (sn n a) (sl n a) p v = a6 at *
  generalize (gt (sl n a) p).getD 0 = g1 at *
  generalize (gt (sl n a) p).isSome = g2 at *
  generalize isV n a = b1 at *
  generalize sn n a = N at *
  repeat' (conv => whnf); first
    | ((refine Or.inl ⟨by rfl, _, f1, ?_⟩))
    | ((refine Or.inl ⟨by rfl, _, c1, ?_⟩))
    | ((refine Or.inl ⟨by rfl, _, c2, ?_⟩))
    | ((refine Or.inl ⟨by rfl, _, c3, ?_⟩))
    | ((refine Or.inl ⟨by rfl, _, c4, ?_⟩))
    | ((refine Or.inl ⟨by rfl, _, c5, ?_⟩))
    | ((refine Or.inl ⟨by rfl, _, c6, ?_⟩))
    | ((refine Or.inl ⟨by rfl, _, c7, ?_⟩))
    | ((refine Or.inl ⟨by rfl, _, c8, ?_⟩))
    | ((refine Or.inl ⟨by rfl, _, c9, ?_⟩))
    | ((refine Or.inl ⟨by rfl, _, ca, ?_⟩))
    | ((refine Or.inl ⟨by rfl, _, cb, ?_⟩))
    | ((refine Or.inl ⟨by rfl, _, cc, ?_⟩))
    | ((refine Or.inl ⟨by rfl, _, cd, ?_⟩))
    | ((refine Or.inl ⟨by rfl, _, ce, ?_⟩))
    | ((refine Or.inl ⟨by rfl, _, cf, ?_⟩))
    | ((refine Or.inl ⟨by rfl, _, cg, ?_⟩))
    | ((refine Or.inl ⟨by rfl, _, ch, ?_⟩))
    | ((refine Or.inl ⟨by rfl, _, ci, ?_⟩))
    | ((refine Or.inl ⟨by rfl, _, cj, ?_⟩))
    | ((refine Or.inl ⟨by rfl, _, fs_live09, ?_⟩))
    | ((refine Br.beq (by rfl) ?_))
    | ((refine Br.bne (by rfl) ?_))
    | ((refine And.intro (Or.inl (Nat.zero_le _)) ?_))
    | ((refine And.intro (show _ ≤ _ from Nat.le_of_ble_eq_true rfl) ?_))
    | ((refine And.intro (by intro y hy; simp at hy; subst hy; rfl) ?_))
    | (refine Br.tt ?_)
    | (refine Br.ff ?_)
    | (refine Br.dec (fun h => ?_) (fun h => ?_)) <;> try (exfalso; omega)
    | (refine Br.neg ?_)
    | (refine Br.mk (fun h => ?_) (fun h => ?_))
    | (refine And.intro rfl ?_)
    | (refine And.intro (by omega) ?_)
    | (refine ⟨_, Or.inl ⟨⟨by omega, by omega⟩, rfl⟩, ?_⟩)
    | (refine And.intro (by simp only [lens_all, its_len, zs_len, vecs_len]; first | done | omega) ?_)
    | (refine And.intro (Nat.le_refl _) ?_)
    | fail
  all_goals exact rfl
end
section
open Go.RowKit
attribute [local irreducible] FS FO IT HS

def few (v : Vc) : Vc := (v.1, v.2.take 60)
def fewK (vs : List Vc) (k : Nat) : List Vc := (vs.take k).map few
theorem few_len (vs : List Vc) (k : Nat) : (fewK vs k).length = min k vs.length := by simp [fewK]
theorem few_more {vs : List Vc} {k : Nat} {v : Vc} (h : k < vs.length) (hv : vs.getD k (0, []) = v) : fewK vs (k + 1) = fewK vs k ++ [few v] := by
  unfold fewK
  rw [List.take_add_one, List.getElem?_eq_getElem h, List.map_append]
  have : vs[k] = v := by rw [← hv]; simp [h]
  rw [this]; rfl
theorem few_mem {vs : List Vc} {k : Nat} : ∀ v ∈ fewK vs k, v.2.length ≤ 400000000 := fun v hv => by
  obtain ⟨u, _, rfl⟩ := List.mem_map.1 hv
  have : (u.2.take 60).length ≤ 60 := by rw [List.length_take]; omega
  show (u.2.take 60).length ≤ _
  omega
theorem vecs_append (l m : List Vc) : vecs (l ++ m) = vecs l ++ vecs m := by simp [vecs]
theorem glR_len (vs : List Vc) : (glR vs).2.1.length ≤ 4096 := by
  unfold glR
  split
  · rename_i h
    exact (okV_glK vs vs.length h).le
  · exact Nat.zero_le _

def ir_fretworklaw09_SpvecGlues : IR :=
(.seq (.reg (⟨(some 2), .mv (.c (.bool false)), none⟩ :: [])) (.seq (.reg (⟨(some 3), .mv (.c (.nils)), none⟩ :: [])) (.seq (.seq (.reg (⟨(some 4), .mv (.c (.int .i64 0)), none⟩ :: [])) (.block 0 (.loop (.seq (.seq (.reg (⟨(some 9), .mv (.t 4), none⟩ ::⟨(some 10), .mv (.t 0), none⟩ ::⟨(some 11), .ln (.t 10), none⟩ ::⟨(some 12), .bin .lss (.t 9) (.t 11), none⟩ ::⟨(some 13), .mv (.t 12), none⟩ ::⟨(some 14), .mv (.t 4), some (13, true)⟩ ::⟨(some 15), .bin .lss (.t 14) (.c (.int .i64 8)), some (13, true)⟩ ::⟨(some 16), .pick (.t 13) (.t 15) (.c (.bool false)), none⟩ :: [])) (.cond (.t 16) .skip (.exit 0))) (.seq (.block 1 (.reg (⟨(some 19), .mv (.t 3), none⟩ ::⟨(some 20), .mv (.t 0), none⟩ ::⟨(some 21), .mv (.t 4), none⟩ ::⟨(some 22), .ia 2 (.t 20) (.t 21), none⟩ ::⟨(some 23), .ld 2 true (.t 22), none⟩ ::⟨(some 24), .call (.c (.fn 14 [])) [(.t 23)], none⟩ ::⟨(some 25), .bsl 1 2 [.int .i64 0, .nils] [(0, (.t 24))], none⟩ ::⟨(some 26), .ap 2 32 (.t 19) (.t 25), none⟩ ::⟨(some 3), .mv (.t 26), none⟩ :: []))) (.reg (⟨(some 17), .mv (.t 4), none⟩ ::⟨(some 18), .bin .add (.t 17) (.c (.int .i64 1)), none⟩ ::⟨(some 4), .mv (.t 18), none⟩ :: []))))))) (.seq (.reg (⟨(some 28), .mv (.t 3), none⟩ ::⟨(some 29), .call (.c (.fn 43 [])) [(.t 28)], none⟩ ::⟨(some 27), .mv (.t 29), none⟩ ::⟨(some 30), .ex 0 (.t 27), none⟩ ::⟨(some 31), .ex 1 (.t 27), none⟩ ::⟨(some 5), .al [.int .i64 0, .nils], none⟩ ::⟨none, .st 2 (.t 5) (.t 30), none⟩ ::⟨(some 6), .mv (.t 31), none⟩ :: [])) (.seq (.reg (⟨(some 33), .mv (.t 3), none⟩ ::⟨(some 34), .call (.c (.fn 64 [])) [(.t 33)], none⟩ ::⟨(some 32), .mv (.t 34), none⟩ ::⟨(some 35), .ex 0 (.t 32), none⟩ ::⟨(some 36), .ex 1 (.t 32), none⟩ ::⟨(some 7), .al [.int .i64 0, .nils], none⟩ ::⟨none, .st 2 (.t 7) (.t 35), none⟩ ::⟨(some 8), .mv (.t 36), none⟩ :: [])) (.seq (.reg (⟨(some 37), .call (.c (.fn 51 [])) [], none⟩ ::⟨(some 38), .mv (.t 37), none⟩ ::⟨(some 39), .ld 2 true (.t 5), some (38, true)⟩ ::⟨(some 40), .ld 2 true (.t 7), some (38, true)⟩ ::⟨(some 41), .call (.c (.fn 19 [])) [(.t 39), (.t 40)], some (38, true)⟩ ::⟨(some 42), .pick (.t 38) (.t 41) (.c (.bool false)), none⟩ ::⟨(some 43), .mv (.t 42), none⟩ ::⟨(some 44), .mv (.t 6), some (43, true)⟩ ::⟨(some 45), .mv (.t 8), some (43, true)⟩ ::⟨(some 46), .bin .eql (.t 44) (.t 45), some (43, true)⟩ ::⟨(some 47), .pick (.t 43) (.t 46) (.c (.bool false)), none⟩ ::⟨(some 2), .mv (.t 47), none⟩ :: [])) .ret))))))
theorem cd_fretworklaw09_SpvecGlues : Code1 Try.prog 11 48 ir_fretworklaw09_SpvecGlues [.t 2] := ⟨Try.call11, _, _, Try.func11, rfl, by kernel_rfl, by kernel_rfl, by kernel_rfl, by kernel_rfl⟩

set_option maxHeartbeats 8000000 in
theorem fs_SpvecGlues (vs : List Vc) : FS Try.prog 11 [VL vs] (.bool true) := by
  refine fs_of_cvc mixed cd_fretworklaw09_SpvecGlues (by simp) ?_
  have hvl := vecs_len vs
  repeat' (conv => whnf); first
    | ((refine Br.beq (by rfl) ?_))
    | ((refine Br.bne (by rfl) ?_))
    | ((refine And.intro (Or.inl (Nat.zero_le _)) ?_))
    | ((refine And.intro (show _ ≤ _ from Nat.le_of_ble_eq_true rfl) ?_))
    | ((refine And.intro (by intro y hy; simp at hy; subst hy; rfl) ?_))
    | (refine Br.tt ?_)
    | (refine Br.ff ?_)
    | (refine Br.dec (fun h => ?_) (fun h => ?_)) <;> try (exfalso; omega)
    | (refine Br.neg ?_)
    | (refine Br.mk (fun h => ?_) (fun h => ?_))
    | (refine And.intro rfl ?_)
    | (refine And.intro (by omega) ?_)
    | (refine ⟨_, Or.inl ⟨⟨by omega, by omega⟩, rfl⟩, ?_⟩)
    | (refine And.intro (by simp only [lens_all, its_len, zs_len, vecs_len, few_len]; first | done | omega) ?_)
    | (refine And.intro (Nat.le_refl _) ?_)
    | fail
  refine ⟨Nat, fun k => k ≤ vs.length ∧ k ≤ 8, fun k => [(0, VL vs), (3, .osl 0 2 0 k), (4, .int .i64 (k : Int))], fun k => [.arr 2 (vecs (fewK vs k))], fun _ => none, fun k => vs.length - k,
    ⟨0, ⟨Nat.zero_le _, Nat.zero_le _⟩, ⟨rfl, ⟨Nat.le_refl _, rfl, rfl⟩, rfl, trivial⟩, ⟨rfl, trivial⟩, rfl⟩, fun k hk => ?_⟩
  obtain ⟨hk1, hk2⟩ := hk
  have hfl := few_len vs k
  have hvf := vecs_len (fewK vs k)
  have hkf : k = (vecs (fewK vs k)).length := by omega
  by_cases hin : k < vs.length ∧ k < 8
  · obtain ⟨hkl, hk8⟩ := hin
    obtain ⟨v, hx⟩ : ∃ v, vs.getD k (0, []) = v := ⟨_, rfl⟩
    have hst := few_more hkl hx
    have c1 := fs_Few v.1 v.2
    repeat' (conv => whnf); first
      | ((refine vecs_go (i := k) (by omega) hx ?_))
      | ((refine Or.inl ⟨by rfl, _, c1, ?_⟩))
      | ((refine Br.beq (by rfl) ?_))
      | ((refine Br.bne (by rfl) ?_))
      | ((refine And.intro (Or.inl (Nat.zero_le _)) ?_))
      | ((refine And.intro (show _ ≤ _ from Nat.le_of_ble_eq_true rfl) ?_))
      | ((refine And.intro (by intro y hy; simp at hy; subst hy; rfl) ?_))
      | (refine Br.tt ?_)
      | (refine Br.ff ?_)
      | (refine Br.dec (fun h => ?_) (fun h => ?_)) <;> try (exfalso; omega)
      | (refine Br.neg ?_)
      | (refine Br.mk (fun h => ?_) (fun h => ?_))
      | (refine And.intro rfl ?_)
      | (refine And.intro (by omega) ?_)
      | (refine ⟨_, Or.inl ⟨⟨by omega, by omega⟩, rfl⟩, ?_⟩)
      | (refine And.intro (by simp only [lens_all]; first | done | omega) ?_)
      | (refine And.intro (Nat.le_refl _) ?_)
      | fail
    refine ⟨k + 1, ⟨by omega, by omega⟩, (show vs.length - (k + 1) < vs.length - k by omega), ⟨rfl, rfl, rfl, trivial⟩, ⟨?_, trivial⟩, rfl⟩
    rw [hst, vecs_append]; rfl
  · have hms := few_mem (vs := vs) (k := k)
    have hml : (fewK vs k).length ≤ 8 := by omega
    have c1 := fo_vGlue (fewK vs k) (by omega) hms
    have c2 := fo_r9Glue (fewK vs k) (by omega) hms
    have hlen := glR_len (fewK vs k)
    generalize glR (fewK vs k) = t at *
    obtain ⟨t1, tl, te⟩ := t
    simp only at hlen c1 c2
    have c3 : FS Try.prog 19 [.agg [.int .i64 t1, .slc 2 (List.take tl.length (List.drop 0 (its tl)))], .agg [.int .i64 t1, .slc 2 (List.take tl.length (List.drop 0 (its tl)))]] (.bool true) := by
      rw [frz_its]; exact fs_same9 t1 tl (by omega)
    have htl := its_len tl
    repeat' (conv => whnf); first
      | ((refine Or.inr (Or.inr (Or.inr (Or.inr (Or.inl (frz_own1 rfl hkf rfl ⟨_, _, c1, rfl, its_loose1 _, ?_⟩)))))))
      | ((refine Or.inr (Or.inr (Or.inr (Or.inr (Or.inl (frz_own1 rfl hkf rfl ⟨_, _, c2, rfl, its_loose1 _, ?_⟩)))))))
      | ((refine Or.inl ⟨by rfl, _, fs_live09, ?_⟩))
      | ((refine ⟨_, c3, rfl, ?_⟩))
      | ((refine Or.inr (Or.inr (Or.inl ?_))))
      | ((refine Br.beq (by rfl) ?_))
      | ((refine Br.bne (by rfl) ?_))
      | ((refine And.intro (Or.inl (Nat.zero_le _)) ?_))
      | ((refine And.intro (show _ ≤ _ from Nat.le_of_ble_eq_true rfl) ?_))
      | ((refine And.intro (by intro y hy; simp at hy; subst hy; rfl) ?_))
      | (refine Br.tt ?_)
      | (refine Br.ff ?_)
      | (refine Br.dec (fun h => ?_) (fun h => ?_)) <;> try (exfalso; omega)
      | (refine Br.neg ?_)
      | (refine Br.mk (fun h => ?_) (fun h => ?_))
      | (refine And.intro rfl ?_)
      | (refine And.intro (by omega) ?_)
      | (refine ⟨_, Or.inl ⟨⟨by omega, by omega⟩, rfl⟩, ?_⟩)
      | (refine And.intro (by simp only [lens_all, its_len, zs_len, vecs_len, few_len]; first | done | omega) ?_)
      | (refine And.intro (Nat.le_refl _) ?_)
      | fail
    all_goals first | exact rfl | (show SV.bool _ = SV.bool true; simp)
end
end Go.Proofs.Ytahpfomabgfmkaa
